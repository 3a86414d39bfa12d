/- What the functions under laws_FnExactParseTests answer. -/
import Derived.Test.YtpjfklhaogdfeaaDoorPBase
import Derived.Test.YtpjfklhaogdfeaaDoorFPt
import Derived.Test.YtpjfklhaogdfeaaDoorNsP
import Derived.Lib.CountLaws
import Derived.Lib.IndexLaws
set_option linter.all false
set_option maxRecDepth 100000
namespace Go.Vm
def uZ (s:List UInt8) (c:Int):Prop:=s.length ≤ 1048576
def pcs (c:Int):List UInt8→List UInt8→List (List UInt8)
 | cur,[]=>[cur]
 | cur,b :: r=>if (b.toNat:Int)=c then cur :: pcs c [] r else pcs c (cur++[b]) r
def xS (s:List UInt8) (c:Int):List (List UInt8):=pcs c [] s
theorem hO (s:List UInt8) (c:Int) (hs:s.length ≤ 1048576):∀ (r:List UInt8) (f i e:Nat) (out:List (List UInt8)),s.drop i=r→f ≤ i→i ≤ s.length→out.length ≤ i→
  xz (r.length+2+e) s c f i out=some (out++pcs c ((s.drop f).take (i - f)) r)
 | [],f,i,e,out,hd,hf,hi,ho=>by
   have hn:=vd hd
   have hi':i=s.length:=by omega
   rw [show ([]:List UInt8).length+2+e=(e+1)+1 by simp; omega]
   simp only [xz]
   rw [if_pos (by omega),if_pos (by omega)]
   have hc:cut s (f:Int) (i:Int)=some ((s.drop f).take (i - f)):=by
    unfold cut
    rw [if_pos (by omega),Int.toNat_natCast,show ((i:Int) - (f:Int)).toNat=i - f by omega]
   rw [hc]
   simp only [Option.bind_some]
   rw [if_pos (by unfold tl vQ; simp only [List.length_append,List.length_cons,List.length_nil]; omega),vH (by omega),if_neg (by omega)]
   rfl
 | b :: r,f,i,e,out,hd,hf,hi,ho=>by
   obtain ⟨g1,g2,g3,g4,g5,g6⟩:=we hd
   rw [show (b :: r).length+2+e=(r.length+2+e)+1 by simp; omega]
   simp only [xz]
   rw [if_pos (by omega),if_neg (by omega),lC g3]
   simp only [Option.bind_some,pcs]
   have hc:cut s (f:Int) (i:Int)=some ((s.drop f).take (i - f)):=by
    unfold cut
    rw [if_pos (by omega),Int.toNat_natCast,show ((i:Int) - (f:Int)).toNat=i - f by omega]
   have hw:w64 ((i:Int)+1)=((i+1:Nat):Int):=vq g1 (by rw [wm]; omega)
   by_cases h:(b.toNat:Int)=c
   ·rw [if_pos h,if_pos h,hc]
    simp only [Option.bind_some]
    rw [if_pos (by unfold tl vQ; simp only [List.length_append,List.length_cons,List.length_nil]; omega),hw,
     hO s c hs r (i+1) (i+1) e _ g5 (Nat.le_refl _) (by omega) (by simp only [List.length_append,List.length_cons,List.length_nil]; omega)]
    simp
   ·rw [if_neg h,if_neg h,hw,hO s c hs r f (i+1) e _ g5 (by omega) (by omega) (by omega)]
    congr 3
    rw [show i+1 - f=(i - f)+1 by omega,List.take_add_one,List.getElem?_drop,show f+(i - f)=i by omega,g4]
    rfl
theorem d6 (s:List UInt8) (c:Int) (h:uZ s c):∃ N,sB N s c=some (xS s c):=by
 refine ⟨s.length+2,?_⟩
 have:=hO s c h s 0 0 0 [] rfl (Nat.le_refl _) (Nat.zero_le _) (Nat.zero_le _)
 simpa [sB,xS] using this
def dOk (n:Int):Prop:=-9999999999 ≤ n∧n ≤ 9999999999
def uV (n:Int):Prop:=dOk n
def xc (n:Int):List UInt8:=Lib.itoa n
def yv (n:Int):Nat:=2 * n.natAbs+(if n < 0 then 1 else 0)
theorem eh:∀ (k u:Nat),u < 10 ^ (k+1)→Lib.nDigits u ≤ k+1
 | 0,u,h=>by rw [Lib.nDigits_small (by simpa using h)]; omega
 | k+1,u,h=>by
   by_cases c:u < 10
   ·rw [Lib.nDigits_small c]; omega
   ·rw [Lib.nDigits,dif_neg c]
    have:=eh k (u / 10) (by rw [Nat.pow_succ] at h; exact (Nat.div_lt_iff_lt_mul (by omega)).2 h)
    omega
theorem eU {n:Int} (h:dOk n):(Lib.itoa n).length ≤ 11:=by
 obtain ⟨h1,h2⟩:=h
 unfold Lib.itoa
 split
 ·have:=eh 9 n.natAbs (by omega)
  rw [List.length_cons,Lib.decDigits_length]; omega
 ·have:=eh 9 n.toNat (by omega)
  rw [Lib.decDigits_length]; omega
theorem bt {n:Int} (h0:0 ≤ n) (h1:n < 10):qR [Go.IntKind.wrap .u8 (w64 (48+n))]=[UInt8.ofNat (48+n.toNat)]:=by
 have:n=0 ∨ n=1 ∨ n=2 ∨ n=3 ∨ n=4 ∨ n=5 ∨ n=6 ∨ n=7 ∨ n=8 ∨ n=9:=by omega
 rcases this with rfl | rfl | rfl | rfl | rfl | rfl | rfl | rfl | rfl | rfl <;> rfl
theorem dS (L:Int→Option (List UInt8)) (j:Nat) (hL:∀ a,yv a < j→uV a→L a=some (xc a)) (a0:Int) (h:uV a0) (hj:yv a0 < j+1):
  ∃ N,sn L N a0=some (xc a0):=by
 refine ⟨0,?_⟩
 have h':-9999999999 ≤ a0∧a0 ≤ 9999999999:=h
 unfold sn
 by_cases c:a0 < 0
 ·have hq:dOk (0 - a0):=⟨by omega,by omega⟩
  have hm:yv (0 - a0) < j:=by
   unfold yv at hj ⊢
   rw [if_pos c] at hj; rw [if_neg (by omega)]; omega
  have hlen:=eU hq
  rw [if_pos c,vH (by omega),hL _ hm hq]
  simp only [Option.bind_some,xc]
  rw [if_pos (by unfold oO; omega)]
  unfold Lib.itoa
  rw [if_pos c,if_neg (by omega),show (0 - a0).toNat=a0.natAbs by omega]
 ·rw [if_neg c]
  by_cases c1:a0 < 10
  ·rw [if_pos c1,bt (by omega) c1]
   unfold xc Lib.itoa
   rw [if_neg c,Lib.decDigits_one (by omega)]
  ·have e1:Int.tdiv a0 10=a0 / 10:=Int.tdiv_eq_ediv_of_nonneg (by omega)
   have e2:Int.tmod a0 10=a0 % 10:=Int.tmod_eq_emod_of_nonneg (by omega)
   have hq:dOk (a0 / 10):=⟨by omega,by omega⟩
   have hm:yv (a0 / 10) < j:=by
    unfold yv at hj ⊢
    rw [if_neg c] at hj; rw [if_neg (by omega)]; omega
   have hlen:=eU hq
   rw [if_neg c1,e1,e2,vH (n:=a0 / 10) (by omega),hL _ hm hq]
   simp only [Option.bind_some,xc]
   rw [bt (by omega) (by omega),if_pos (by unfold oO; simp only [List.length_append,List.length_cons,List.length_nil]; omega)]
   unfold Lib.itoa
   have e3:Lib.decDigits a0.toNat=Lib.decDigits (a0.toNat / 10)++[UInt8.ofNat (48+a0.toNat % 10)]:=by rw [Lib.decDigits,dif_neg (by omega)]
   rw [if_neg (by omega),if_neg c,e3,show (a0 / 10).toNat=a0.toNat / 10 by omega,show (a0 % 10).toNat=a0.toNat % 10 by omega]
def qA (w:List UInt8):Prop:=w.length ≤ 1048576
def dgB (c:UInt8):Prop:=48 ≤ (c.toNat:Int)∧(c.toNat:Int) ≤ 57
instance (c:UInt8):Decidable (dgB c):=by unfold dgB; infer_instance
def gN:Bool→List UInt8→Int→Nat→Option (Int×Nat)
 | _,[],v,k=>some (v,k)
 | f,c :: r,v,k=>if dgB c∧k < 10 then gN false r (v * 10+((c.toNat:Int) - 48)) (k+1)
     else if f=false then none else if (c.toNat:Int)=45 then gN false r v k else none
def lw (w:List UInt8) (v:Int) (k:Nat):Int×Bool:=
 if w.head?=some 45 then (-v,decide (0 < k)&&decide (Lib.itoa (-v)=w)) else (v,decide (0 < k)&&decide (Lib.itoa v=w))
def sx (w:List UInt8):Int×Bool:=match gN true w 0 0 with
 | none=>(0,false)
 | some p=>lw w p.1 p.2
def rR (w:List UInt8):Int×Bool:=sx w
theorem Sr {w:List UInt8} (h:w.head?=some 45) (v:Int) (k:Nat):lw w v k=(-v,decide (0 < k)&&decide (Lib.itoa (-v)=w)):=if_pos h
theorem bB {w:List UInt8} (h:¬ w.head?=some 45) (v:Int) (k:Nat):lw w v k=(v,decide (0 < k)&&decide (Lib.itoa v=w)):=if_neg h
def j7 (v:Int) (k:Nat):Prop:=0 ≤ v∧v < 10 ^ k∧k ≤ 10
theorem jJ {k:Nat} (h:k ≤ 10):(10:Int) ^ k ≤ 10000000000:=by
 have:(10:Nat) ^ k ≤ 10 ^ 10:=Nat.pow_le_pow_right (by omega) h
 have e:((10 ^ k:Nat):Int)=(10:Int) ^ k:=by simp
 rw [← e]; omega
theorem dZ {v:Int} {k:Nat} {d:Int} (h:j7 v k) (hk:k < 10) (h0:0 ≤ d) (h9:d ≤ 9):j7 (v * 10+d) (k+1):=by
 obtain ⟨h1,h2,h3⟩:=h
 refine ⟨by omega,?_,by omega⟩
 rw [Int.pow_succ]
 omega
theorem gc (L:Int→Option (List UInt8)) (hL:∀ a,uV a→L a=some (xc a)) (w:List UInt8) (hw:w.length ≤ 1048576):
  ∀ (r:List UInt8) (i e:Nat) (v:Int) (k:Nat),w.drop i=r→j7 v k→(i=0→k=0∧v=0)→
  yP L (r.length+1+e) w v k i=some (match gN (decide (i=0)) r v k with | none=>(0,false) | some p=>lw w p.1 p.2)
 | [],i,e,v,k,hd,hv,hi=>by
   have hp:=jJ hv.2.2
   have hv':=hv.2.1
   have hv0:=hv.1
   have d1:dOk v:=⟨by omega,by omega⟩
   have d2:dOk (-v):=⟨by omega,by omega⟩
   rw [List.length_nil,ZF]
   simp only [yP,gN]
   rw [if_neg (vd hd)]
   have e1:w64 (0 - v)=-v:=by rw [vH (by omega)]; omega
   have e2:((0:Nat):Int)=0:=rfl
   cases w with
   | nil=>
     rw [if_neg (by simp),bB (by simp)]
     by_cases c:0 < k
     ·rw [if_pos (by omega),hL _ d1]; simp [c,xc]
     ·rw [if_neg (by omega)]; simp [c]
   | cons b w'=>
     have hb:qx (b :: w') 0=some (b.toNat:Int):=by
      have:=lC (l:=b :: w') (j:=0) (c:=b) rfl
      simpa using this
     rw [if_pos (by rw [List.length_cons]; omega),hb]
     simp only [Option.bind_some]
     by_cases h45:b=45
     ·subst h45
      rw [if_pos (by rfl),Sr (by rfl),e1]
      by_cases c:0 < k
      ·rw [if_pos (by omega),hL _ d2]; simp [c,xc]
      ·rw [if_neg (by omega)]; simp [c]
     ·have h':¬ (b.toNat:Int)=45:=fun q=>h45 (UInt8.toNat_inj.1 (by show b.toNat=45; omega))
      rw [if_neg h',bB (by simpa using h45)]
      by_cases c:0 < k
      ·rw [if_pos (by omega),hL _ d1]; simp [c,xc]
      ·rw [if_neg (by omega)]; simp [c]
 | b :: r,i,e,v,k,hd,hv,hi=>by
   obtain ⟨g1,g2,g3,g4,g5,g6⟩:=we hd
   have hp:=jJ hv.2.2
   have hv':=hv.2.1
   have hv0:=hv.1
   have hk:=hv.2.2
   have hws:w64 ((i:Int)+1)=((i+1:Nat):Int):=vq g1 (by rw [wm]; omega)
   have ei:decide (i+1=0)=false:=by simp
   rw [List.length_cons,yj]
   simp only [yP,gN]
   rw [if_pos g2,lC g3]
   simp only [Option.bind_some]
   have tail:(if (0:Int) < (i:Int) then some ((0:Int),false) else if (b.toNat:Int)=45 then yP L (r.length+1+e) w v (k:Int) (w64 ((i:Int)+1)) else some (0,false))
     =some (match (if decide (i=0)=false then none else if (b.toNat:Int)=45 then gN false r v k else none) with | none=>(0,false) | some p=>lw w p.1 p.2):=by
    by_cases c0:i=0
    ·subst c0
     rw [if_neg (c:=(0:Int) < ((0:Nat):Int)) (by omega),if_neg (c:=decide ((0:Nat)=0)=false) (by decide)]
     by_cases c45:(b.toNat:Int)=45
     ·rw [if_pos c45,if_pos c45,hws]
      have:=gc L hL w hw r (0+1) e v k g5 hv (fun q=>by omega)
      rw [ei] at this
      exact this
     ·rw [if_neg c45,if_neg c45]
    ·rw [if_pos (c:=(0:Int) < (i:Int)) (by omega),if_pos (c:=decide (i=0)=false) (by simpa using c0)]
   by_cases c1:48 ≤ (b.toNat:Int)
   ·rw [if_pos c1]
    by_cases c2:(b.toNat:Int) ≤ 57
    ·rw [if_pos c2]
     by_cases c3:k < 10
     ·have w1:Go.IntKind.wrap .u8 ((b.toNat:Int) - 48)=(b.toNat:Int) - 48:=by
       have hb0:(0:Int) ≤ (b.toNat:Int) - 48:=by omega
       have hb1:(b.toNat:Int) - 48 < 256:=by omega
       show ((b.toNat:Int) - 48) % 256=_
       exact Int.emod_eq_of_lt hb0 hb1
      have w2:w64 ((b.toNat:Int) - 48)=(b.toNat:Int) - 48:=vH (by omega)
      have w3:w64 (v * 10)=v * 10:=vH (by omega)
      have w4:w64 (v * 10+((b.toNat:Int) - 48))=v * 10+((b.toNat:Int) - 48):=vH (by omega)
      have w5:w64 ((k:Int)+1)=((k+1:Nat):Int):=by rw [vH (by omega)]; rfl
      rw [if_pos (by omega),if_pos ⟨⟨c1,c2⟩,c3⟩,w1,w2,w3,w4,w5,hws]
      have:=gc L hL w hw r (i+1) e (v * 10+((b.toNat:Int) - 48)) (k+1) g5 (dZ (d:=(b.toNat:Int) - 48) hv c3 (by omega) (by omega)) (fun q=>by omega)
      rw [ei] at this
      exact this
     ·rw [if_neg (c:=(k:Int) < 10) (by omega),if_neg (c:=dgB b∧k < 10) (fun q=>c3 q.2)]
      exact tail
    ·rw [if_neg c2,if_neg (c:=dgB b∧k < 10) (fun q=>c2 q.1.2)]
     exact tail
   ·rw [if_neg c1,if_neg (c:=dgB b∧k < 10) (fun q=>c1 q.1.1)]
    exact tail
theorem eR (L:Int→Option (List UInt8)) (hL:∀ a,uV a→L a=some (xc a)) (w:List UInt8) (h:qA w):∃ N,rY L N w=some (rR w):=
 ⟨w.length+1,gc L hL w h w 0 0 0 0 rfl ⟨by omega,by simp,by omega⟩ (fun _=>⟨rfl,rfl⟩)⟩
def r9 (s:List UInt8):Prop:=s.length ≤ 1048576
def rk:List (List UInt8)→List Int→List Int×Bool
 | [],acc=>(acc,true)
 | w :: r,acc=>if (sx w).2=false then (acc,false) else rk r (acc++[(sx w).1])
def zB (s:List UInt8):List Int×Bool:=if s=[] then ([],true) else rk (pcs 32 [] s) []
theorem rO (c:Int):∀ (r cur:List UInt8),(pcs c cur r).length ≤ r.length+1
 | [],cur=>by simp [pcs]
 | b :: r,cur=>by
   simp only [pcs]
   split
   ·rw [List.length_cons,List.length_cons]; have:=rO c r []; omega
   ·rw [List.length_cons]; have:=rO c r (cur++[b]); omega
theorem rG (c:Int):∀ (r cur:List UInt8),∀ x ∈ pcs c cur r,x.length ≤ cur.length+r.length
 | [],cur,x,hx=>by simp only [pcs,List.mem_singleton] at hx; subst hx; simp
 | b :: r,cur,x,hx=>by
   simp only [pcs] at hx
   split at hx
   ·rcases List.mem_cons.1 hx with rfl | hx
    ·simp
    ·have:=rG c r [] x hx; simp only [List.length_nil,List.length_cons] at this ⊢; omega
   ·have:=rG c r (cur++[b]) x hx
    simp only [List.length_append,List.length_cons,List.length_nil] at this ⊢; omega
section
variable (L1:List UInt8→Int→Option (List (List UInt8))) (h1:∀ s c,uZ s c→L1 s c=some (xS s c)) (L2:List UInt8→Option (Int×Bool)) (h2:∀ w,qA w→L2 w=some (rR w))
include h1 h2
theorem ee (l:List (List UInt8)) (hl:l.length ≤ 1048577) (he:∀ w ∈ l,w.length ≤ 1048576):∀ (r:List (List UInt8)) (j e:Nat) (acc:List Int),l.drop j=r→acc.length ≤ j→
  wx L1 L2 (r.length+1+e) j acc l=some (rk r acc)
 | [],j,e,acc,hd,ha=>by
   rw [List.length_nil,ZF]
   simp only [wx]
   rw [if_neg (vd hd)]; rfl
 | w :: r,j,e,acc,hd,ha=>by
   obtain ⟨g1,g2,g3,g4,g5,g6⟩:=we hd
   rw [List.length_cons,yj]
   simp only [wx]
   rw [if_pos g2,if_pos (by omega),Int.toNat_natCast,g4]
   simp only [Option.bind_some]
   rw [h2 _ (he w (List.mem_of_getElem? g4))]
   simp only [Option.bind_some,rk,rR]
   by_cases c:(sx w).2=false
   ·rw [if_pos c,if_pos c]
   ·rw [if_neg c,if_neg c,if_pos (by unfold tl vQ; simp only [List.length_append,List.length_cons,List.length_nil]; omega),vq g1 (by rw [wm]; omega)]
    exact ee l hl he r (j+1) e _ g5 (by simp only [List.length_append,List.length_cons,List.length_nil]; omega)
theorem fF (s:List UInt8) (h:r9 s):∃ N,tX L1 L2 N s=some (zB s):=by
 have h':s.length ≤ 1048576:=h
 refine ⟨(pcs 32 [] s).length+1,?_⟩
 unfold tX zB
 by_cases c:s=[]
 ·rw [if_pos c,if_pos c]
 ·rw [if_neg c,if_neg c,h1 _ _ h]
  simp only [Option.bind_some,xS]
  refine ee L1 h1 L2 h2 _ ?_ ?_ _ 0 0 [] rfl (Nat.zero_le _)
  ·have:=rO 32 s []; omega
  ·intro w hw
   have:=rG 32 s [] w hw
   simp at this; omega
end
def yc (l:List Int):Prop:=l.length ≤ 1048576
def vY (l:List Int):Prop:=yc l
def sS (p x:Int):Int:=if 1000 < w64 (p * x) then 1001 else w64 (p * x)
def wE (l:List Int):Int:=l.foldl sS 1
theorem lg (l:List Int) (hl:yc l):∀ (r:List Int) (j e:Nat) (p:Int),l.drop j=r→yV (r.length+1+e) l p j=some (r.foldl sS p)
 | [],j,e,p,hd=>by
   rw [show ([]:List Int).length+1+e=e+1 by simp; omega]
   simp only [yV]
   rw [if_neg (vd hd)]; rfl
 | x :: r,j,e,p,hd=>by
   obtain ⟨h1,h2,h3,h4,h5,h6⟩:=we hd
   have hb:l.length ≤ big:=by unfold yc at hl; rw [wm]; omega
   rw [show (x :: r).length+1+e=(r.length+1+e)+1 by simp; omega]
   simp only [yV]
   rw [if_pos h2,h3]
   simp only [Option.bind_some,List.foldl_cons,vq h1 hb]
   unfold sS
   by_cases c:1000 < w64 (p * x)
   ·rw [if_pos c,if_pos c,lg l hl r (j+1) e _ h5]; rfl
   ·rw [if_neg c,if_neg c,lg l hl r (j+1) e _ h5]; rfl
theorem jF (l:List Int) (h:vY l):∃ N,tx N l=some (wE l):=
 ⟨l.length+1,lg l h l 0 0 1 rfl⟩
def qk (l:List Int):Prop:=yc l
def oz (x:Int):Bool:=decide (0 ≤ x)&&decide (x ≤ 1000)
def mo (l:List Int):Bool:=decide (l.length ≤ 3)&&l.all oz&&decide (l.foldl sS 1 ≤ 1000)
def tT (l:List Int):Bool:=mo l
theorem Ym (L:List Int→Option Int) (l:List Int) (hl:yc l) (q:Int) (hq:L l=some q):∀ (r:List Int) (j e:Nat),l.drop j=r→
  wz L (r.length+1+e) l j=some (r.all oz&&decide (q ≤ 1000))
 | [],j,e,hd=>by
   rw [show ([]:List Int).length+1+e=e+1 by simp; omega]
   simp only [wz]
   rw [if_neg (vd hd),hq]; rfl
 | x :: r,j,e,hd=>by
   obtain ⟨h1,h2,h3,h4,h5,h6⟩:=we hd
   have hb:l.length ≤ big:=by unfold yc at hl; rw [wm]; omega
   rw [show (x :: r).length+1+e=(r.length+1+e)+1 by simp; omega]
   simp only [wz]
   rw [if_pos h2,h3]
   simp only [Option.bind_some,vq h1 hb,List.all_cons,oz]
   by_cases c1:x < 0
   ·rw [if_pos c1]; simp; omega
   ·rw [if_neg c1]
    by_cases c2:1000 < x
    ·rw [if_pos c2]; simp; omega
    ·rw [if_neg c2,Ym L l hl q hq r (j+1) e h5]
     have e1:decide (0 ≤ x)=true:=by simp; omega
     have e2:decide (x ≤ 1000)=true:=by simp; omega
     rw [e1,e2]; simp
theorem fJ (L:List Int→Option Int) (hL:∀ l,vY l→L l=some (wE l)) (l:List Int) (h:qk l):∃ N,tG L N l=some (tT l):=by
 refine ⟨l.length+1,?_⟩
 unfold tG tT mo
 by_cases c:(3:Int) < l.length
 ·have:¬ l.length ≤ 3:=by omega
  rw [if_pos c]; simp [this]
 ·have:l.length ≤ 3:=by omega
  rw [if_neg c]
  have q:=Ym L l h _ (hL l h) l 0 0 rfl
  rw [show l.length+1+0=l.length+1 by rfl] at q
  rw [show ((0:Nat):Int)=0 by rfl] at q
  rw [q]; simp only [this,wE,decide_true,Bool.true_and]; rfl
def ry (s d:List Int):Prop:=yc s∧yc d
def nq (x:Int):Bool:=decide (-3000000000 ≤ x)&&decide (x ≤ 3000000000)
def qK (s d:List Int):Bool:=mo s&&decide ((d.length:Int)=s.foldl sS 1)&&d.all nq
def uC (s d:List Int):Bool:=qK s d
theorem mK (L1:List Int→Option Bool) (L2:List Int→Option Int) (s l:List Int) (hl:yc l):∀ (r:List Int) (j e:Nat),l.drop j=r→
  xW L1 L2 (r.length+1+e) j s l=some (r.all nq)
 | [],j,e,hd=>by
   rw [show ([]:List Int).length+1+e=e+1 by simp; omega]
   simp only [xW]
   rw [if_neg (vd hd)]; rfl
 | x :: r,j,e,hd=>by
   obtain ⟨h1,h2,h3,h4,h5,h6⟩:=we hd
   have hb:l.length ≤ big:=by unfold yc at hl; rw [wm]; omega
   rw [show (x :: r).length+1+e=(r.length+1+e)+1 by simp; omega]
   simp only [xW]
   rw [if_pos h2,h3]
   simp only [Option.bind_some,vq h1 hb,List.all_cons,nq]
   by_cases c1:x < -3000000000
   ·rw [if_pos c1]; simp; omega
   ·rw [if_neg c1]
    by_cases c2:3000000000 < x
    ·rw [if_pos c2]; simp; omega
    ·rw [if_neg c2,mK L1 L2 s l hl r (j+1) e h5]
     have e1:decide (-3000000000 ≤ x)=true:=by simp; omega
     have e2:decide (x ≤ 3000000000)=true:=by simp; omega
     rw [e1,e2]; simp
theorem hM (L1:List Int→Option Bool) (h1:∀ l,qk l→L1 l=some (tT l)) (L2:List Int→Option Int) (h2:∀ l,vY l→L2 l=some (wE l))
  (s d:List Int) (h:ry s d):∃ N,uU L1 L2 N s d=some (uC s d):=by
 refine ⟨d.length+1,?_⟩
 unfold uU uC qK
 rw [h1 _ h.1,h2 _ h.1]
 simp only [Option.bind_some,tT,wE]
 have q:=mK L1 L2 s d h.2 d 0 0 rfl
 rw [show d.length+1+0=d.length+1 by rfl,show ((0:Nat):Int)=0 by rfl] at q
 rw [q]
 cases mo s
 ·simp
 ·by_cases c:(d.length:Int)=s.foldl sS 1 <;> simp [c]
def wn (s:List UInt8):Prop:=s.length ≤ 1048576
def yg (s:List UInt8):List Int×List Int×Int:=
 if 20000 < s.length then ([],[],1) else
 match pcs 58 [] s with
 | [a,b]=>if (zB a).2=true∧(zB b).2=true∧qK (zB a).1 (zB b).1=true then ((zB a).1,(zB b).1,0) else ([],[],1)
 | _=>([],[],1)
def vl (s:List UInt8):List Int×List Int×Int:=yg s
theorem lM:∀ (r:List (List UInt8)) (acc:List Int),(rk r acc).1.length ≤ acc.length+r.length
 | [],acc=>by simp [rk]
 | w :: r,acc=>by
   simp only [rk]
   split
   ·simp
   ·have:=lM r (acc++[(sx w).1])
    simp only [List.length_append,List.length_cons,List.length_nil] at this ⊢; omega
theorem nJ {s:List UInt8} (h:s.length ≤ 20000):yc (zB s).1:=by
 unfold zB yc
 split
 ·simp
 ·have:=lM (pcs 32 [] s) []
  have h2:=rO 32 s []
  simp only [List.length_nil] at this; omega
theorem kQ (L1:List UInt8→Int→Option (List (List UInt8))) (h1:∀ s c,uZ s c→L1 s c=some (xS s c)) (L2:List UInt8→Option (List Int×Bool)) (h2:∀ w,r9 w→L2 w=some (zB w))
  (L3:List Int→List Int→Option Bool) (h3:∀ s d,ry s d→L3 s d=some (uC s d)) (s:List UInt8) (h:wn s):∃ N,w6 L1 L2 L3 N s=some (vl s):=by
 refine ⟨0,?_⟩
 unfold w6 vl yg
 by_cases c:20000 < s.length
 ·rw [if_pos (by omega),if_pos c]
 ·rw [if_neg (by omega),if_neg c,h1 _ _ h]
  simp only [Option.bind_some,xS]
  have hlen:=rG 58 s []
  match hp:pcs 58 [] s with
  | []=>rw [if_neg (by simp)]
  | [a]=>rw [if_neg (by simp)]
  | [a,b]=>
    have ha:a.length ≤ 20000:=by have:=hlen a (by rw [hp]; simp); simp at this; omega
    have hb:b.length ≤ 20000:=by have:=hlen b (by rw [hp]; simp); simp at this; omega
    rw [if_pos (by simp),if_pos (by simp)]
    simp only [List.getElem?_cons_zero,Option.bind_some]
    rw [h2 _ (show a.length ≤ 1048576 by omega)]
    simp only [Option.bind_some]
    rw [if_pos (by simp)]
    simp only [List.getElem?_cons_succ,List.getElem?_cons_zero,Option.bind_some]
    rw [h2 _ (show b.length ≤ 1048576 by omega)]
    simp only [Option.bind_some]
    by_cases c1:(zB a).2=false
    ·rw [if_pos c1,if_neg (by simp [c1])]
    ·rw [if_neg c1]
     by_cases c2:(zB b).2=false
     ·rw [if_pos c2,if_neg (by simp [c2])]
     ·rw [if_neg c2,h3 _ _ ⟨nJ ha,nJ hb⟩]
      simp only [Option.bind_some,uC]
      by_cases c3:qK (zB a).1 (zB b).1=false
      ·rw [if_pos c3,if_neg (by simp [c3])]
      ·rw [if_neg c3,if_pos ⟨by simpa using c1,by simpa using c2,by simpa using c3⟩]
  | a :: b :: d :: r=>rw [if_neg (by simp; omega)]
def sh (s:List UInt8):Prop:=s.length ≤ 1048576
def arrow:List UInt8:=[32,61,62,32]
def zJ (s:List UInt8):List Int×List Int×List Int×List Int×Bool:=
 if (Lib.cut s arrow).2.2=true then ((yg (Lib.cut s arrow).1).1,(yg (Lib.cut s arrow).1).2.1,(yg (Lib.cut s arrow).2.1).1,(yg (Lib.cut s arrow).2.1).2.1,decide ((yg (Lib.cut s arrow).1).2.2=0)&&decide ((yg (Lib.cut s arrow).2.1).2.2=0)) else ([],[],[],[],false)
theorem iW {α:Type} {s:List α} {a b:Nat} (h:a ≤ b) (h':b ≤ s.length):cut s (a:Int) (b:Int)=some ((s.drop a).take (b - a)):=by
 unfold cut
 rw [if_pos (by omega),Int.toNat_natCast,show ((b:Int) - (a:Int)).toNat=b - a by omega]
theorem U7 {α:Type} {s:List α} {b:Nat} (h':b ≤ s.length):cut s 0 (b:Int)=some (s.take b):=by
 have:=iW (s:=s) (a:=0) (b:=b) (Nat.zero_le _) h'
 simpa using this
theorem Uj {α:Type} {s:List α} {a:Nat} (h:a ≤ s.length):cut s (a:Int) (s.length:Int)=some (s.drop a):=by
 rw [iW h (Nat.le_refl _),List.take_of_length_le (by rw [List.length_drop]; omega)]
theorem UF {s sub:List UInt8} {i:Nat}:Lib.occAt s sub i=decide ((s.drop i).take sub.length=sub):=by
 unfold Lib.occAt
 by_cases h:(s.drop i).take sub.length=sub
 ·rw [decide_eq_true h,List.isPrefixOf_iff_prefix,List.prefix_iff_eq_take]; exact h.symm
 ·rw [decide_eq_false h,← Bool.not_eq_true,List.isPrefixOf_iff_prefix,List.prefix_iff_eq_take]; exact fun e=>h e.symm
theorem eH (L:List UInt8→Option (List Int×List Int×Int)) (hL:∀ s,wn s→L s=some (vl s)) (s:List UInt8) (hs:s.length ≤ 1048576):
  ∀ (k i:Nat),i+k=s.length→Lib.NoOcc s arrow i→vG L (k+1) s i=some (zJ s)
 | k,i,hk,hn=>by
   simp only [vG]
   rw [vH (n:=(i:Int)+4) (by omega),show ((i:Int)+4)=((i+4:Nat):Int) by omega]
   by_cases c:i+4 ≤ s.length
   ·rw [if_pos (by omega),iW (by omega) c]
    simp only [Option.bind_some]
    rw [show i+4 - i=arrow.length by simp [arrow],show ([32,61,62,32]:List UInt8)=arrow from rfl]
    have ho:=UF (s:=s) (sub:=arrow) (i:=i)
    by_cases h:(s.drop i).take arrow.length=arrow
    ·rw [if_pos h,U7 (by omega)]
     rw [decide_eq_true h] at ho
     have hi:=Lib.index_hit hn (by omega) ho
     have hc:Lib.cut s arrow=(s.take i,s.drop (i+4),true):=by
      unfold Lib.cut
      rw [hi,if_pos (by omega),Int.toNat_natCast]; rfl
     have hA:∀ s,wn s→L s=some (yg s):=hL
     simp only [Option.bind_some]
     rw [hA _ (show (s.take i).length ≤ 1048576 by rw [List.length_take]; omega)]
     simp only [Option.bind_some]
     rw [Uj c]
     simp only [Option.bind_some]
     rw [hA _ (show (s.drop (i+4)).length ≤ 1048576 by rw [List.length_drop]; omega)]
     simp only [Option.bind_some]
     unfold zJ
     rw [hc]
     simp only [if_true]
     by_cases c0:(yg (s.take i)).2.2=0
     ·rw [if_pos c0]; simp [c0]
     ·rw [if_neg c0]; simp [c0]
    ·rw [if_neg h,vq (n:=s.length) (by omega) (by rw [wm]; omega)]
     rw [decide_eq_false h] at ho
     cases k with
     | zero=>omega
     | succ k=>
       refine eH L hL s hs k (i+1) (by omega) fun j hj=>?_
       by_cases e:j=i
       ·rw [e]; exact ho
       ·exact hn j (by omega)
   ·rw [if_neg (by omega)]
    have hi:=Lib.index_past (sub:=arrow) (by simp [arrow]) hn (by simp [arrow]; omega)
    have hc:(Lib.cut s arrow).2.2=false:=by
     unfold Lib.cut
     rw [hi,if_neg (by omega)]
    unfold zJ
    rw [if_neg (by simp [hc])]
theorem fV (L:List UInt8→Option (List Int×List Int×Int)) (hL:∀ s,wn s→L s=some (vl s)) (s:List UInt8) (h:sh s):∃ N,rm L N s=some (zJ s):=
 ⟨s.length+1,eH L hL s h s.length 0 (by omega) fun j hj=>absurd hj (Nat.not_lt_zero j)⟩
def sc (s:List UInt8):Prop:=s.length ≤ 1048576
def p5:List (List UInt8)→Nat→List TTest→List TTest×Int×Int
 | [],_,acc=>(acc,0,0)
 | x :: r,i,acc=>if x=[] then p5 r (i+1) acc else if (zJ x).2.2.2.2=false then ([],2,(i:Int)+1) else if acc.length=20 then ([],3,(i:Int)+1)
   else p5 r (i+1) (acc++[⟨(zJ x).1,(zJ x).2.1,(zJ x).2.2.1,(zJ x).2.2.2.1⟩])
def zQ (s:List UInt8):List TTest×Int×Int:=if 50000 < s.length then ([],1,0) else p5 (pcs 10 [] s) 0 []
theorem oa (L1:List UInt8→Int→Option (List (List UInt8))) (L2:List UInt8→Option (List Int×List Int×List Int×List Int×Bool)) (h2:∀ s,sh s→L2 s=some (zJ s)) (ls:List (List UInt8)) (hl:ls.length ≤ 1048576) (he:∀ x ∈ ls,x.length ≤ 1048576):
  ∀ (r:List (List UInt8)) (j e:Nat) (acc:List TTest),ls.drop j=r→acc.length ≤ 20→yG L1 L2 (r.length+1+e) j [] acc ls=some (p5 r j acc)
 | [],j,e,acc,hd,ha=>by
   rw [show ([]:List (List UInt8)).length+1+e=e+1 by simp; omega]
   simp only [yG]
   rw [if_neg (vd hd)]; rfl
 | x :: r,j,e,acc,hd,ha=>by
   obtain ⟨g1,g2,g3,g4,g5,g6⟩:=we hd
   rw [show (x :: r).length+1+e=(r.length+1+e)+1 by simp; omega]
   simp only [yG,p5]
   have hw:w64 ((j:Int)+1)=((j+1:Nat):Int):=vq g1 (by rw [wm]; omega)
   rw [if_pos g2,if_pos ⟨by omega,g2⟩,Int.toNat_natCast,g4]
   simp only [Option.bind_some]
   by_cases c:x=[]
   ·rw [if_pos c,if_pos c,hw,oa L1 L2 h2 ls hl he r (j+1) e acc g5 ha]
   ·rw [if_neg c,if_neg c,if_pos ⟨by omega,g2⟩]
    rw [h2 _ (show x.length ≤ 1048576 from he x (List.mem_of_getElem? g4))]
    simp only [Option.bind_some]
    by_cases c1:(zJ x).2.2.2.2=false
    ·rw [if_pos c1,if_pos c1,hw]; rfl
    ·rw [if_neg c1,if_neg c1]
     by_cases c2:acc.length=20
     ·rw [if_pos (by omega),if_pos c2,hw]; rfl
     ·rw [if_neg (by omega),if_neg c2,if_pos (by unfold tl vQ; simp only [List.length_append,List.length_cons,List.length_nil]; omega),hw,
       oa L1 L2 h2 ls hl he r (j+1) e _ g5 (by simp only [List.length_append,List.length_cons,List.length_nil]; omega)]
theorem kN (L1:List UInt8→Int→Option (List (List UInt8))) (h1:∀ s c,uZ s c→L1 s c=some (xS s c)) (L2:List UInt8→Option (List Int×List Int×List Int×List Int×Bool)) (h2:∀ s,sh s→L2 s=some (zJ s)) (s:List UInt8) (h:sc s):
  ∃ N,vc L1 L2 N s=some (zQ s):=by
 refine ⟨(pcs 10 [] s).length+1,?_⟩
 unfold vc zQ
 by_cases c:50000 < s.length
 ·rw [if_pos (by omega),if_pos c]
 ·rw [if_neg (by omega),if_neg c,h1 _ _ h]
  simp only [Option.bind_some,xS]
  have hlen:=rO 10 s []
  have hev:=rG 10 s []
  exact oa L1 L2 h2 _ (by omega) (fun x hx=>by have:=hev x hx; simp at this; omega) _ 0 0 [] rfl (by simp)
def rX (a b:List UInt8):Prop:=a.length ≤ 1048576
def pn (a b:List UInt8):List UInt8×List UInt8×Bool:=Lib.cut a b
theorem fI {a b:List UInt8} (h:rX a b):a.length < 4294967281:=by have h':a.length ≤ 1048576:=h; omega
def rb (a b:List UInt8):Prop:=a.length ≤ 1048576∧1 ≤ b.length
def qf (a b:List UInt8):List (List UInt8):=Lib.split a b
theorem j4 {a b:List UInt8} (h:rb a b):a.length < 4294967281∧1 ≤ b.length:=⟨by have:=h.1; omega,h.2⟩
def rH (a:List UInt8):Prop:=a.length ≤ 1048576
def qB (a:List UInt8):Alt Int Int:=tq a
theorem gK {a:List UInt8} (h:rH a):a.length ≤ 281474976710656:=by have h':a.length ≤ 1048576:=h; omega
def rx (n:Int):Prop:=-9223372036854775808 ≤ n∧n ≤ 9223372036854775807
def qD (n:Int):List UInt8:=Lib.itoa n
theorem gv {n:Int} (h:rx n):-9223372036854775808 ≤ n∧n ≤ 9223372036854775807:=h
def rA (s:List UInt8):Prop:=s.length ≤ 1048576
def vt:List (List UInt8)→List Int→List Int×Bool
 | [],acc=>(acc,true)
 | w :: r,acc=>match tq w with
   | .a v=>if Lib.itoa v=w then vt r (acc++[v]) else ([],false)
   | .b _=>([],false)
def zy (s:List UInt8):List Int×Bool:=if s=[] then ([],true) else vt (pcs 32 [] s) []
theorem pZ (c:UInt8):∀ (s:List UInt8),(∀ b ∈ s,b ≠ c) ∨ ∃ a r,s=a++c :: r∧∀ b ∈ a,b ≠ c
 | []=> .inl (by simp)
 | b :: s=>by
   by_cases h:b=c
   ·exact .inr ⟨[],s,by simp [h],by simp⟩
   ·rcases pZ c s with h1 | ⟨a,r,rfl,h2⟩
    ·refine .inl fun x hx=>?_
     rcases List.mem_cons.1 hx with rfl | hx
     ·exact h
     ·exact h1 x hx
    ·refine .inr ⟨b :: a,r,rfl,fun x hx=>?_⟩
     rcases List.mem_cons.1 hx with rfl | hx
     ·exact h
     ·exact h2 x hx
theorem jr (c:UInt8):∀ (s:List UInt8),(∀ b ∈ s,b ≠ c)→Lib.index s [c]=-1
 | [],_=>rfl
 | b :: s,h=>by
   have h1:¬ ([c].isPrefixOf (b :: s))=true:=by
    simp only [List.isPrefixOf,Bool.and_true,beq_iff_eq]
    exact fun e=>h b (by simp) e.symm
   have h2:=jr c s fun x hx=>h x (by simp [hx])
   unfold Lib.index
   rw [if_neg h1,h2]; rfl
theorem Uh {c:UInt8} {s:List UInt8} (h:∀ b ∈ s,b ≠ c):Lib.split s [c]=[s]:=by
 unfold Lib.split; rw [Lib.count_miss (jr c s h)]; rfl
theorem jG (c:UInt8) (r:List UInt8):∀ (a:List UInt8),(∀ b ∈ a,b ≠ c)→Lib.index (a++c :: r) [c]=(a.length:Int)
 | [],_=>by
   show Lib.index (c :: r) [c]=_
   unfold Lib.index
   rw [if_pos (by simp [List.isPrefixOf])]; rfl
 | b :: a,h=>by
   have h1:¬ ([c].isPrefixOf (b :: (a++c :: r)))=true:=by
    simp only [List.isPrefixOf,Bool.and_true,beq_iff_eq]
    exact fun e=>h b (by simp) e.symm
   have h2:=jG c r a fun x hx=>h x (by simp [hx])
   rw [List.cons_append]
   unfold Lib.index
   rw [if_neg h1,h2,if_neg (by simp),List.length_cons]; omega
theorem Ub {c:UInt8} {a r:List UInt8} (h:∀ b ∈ a,b ≠ c):Lib.split (a++c :: r) [c]=a :: Lib.split r [c]:=by
 have hi:=jG c r a h
 have hn:=Lib.count_hit (sub:=[c]) (by simp) hi
 unfold Lib.split
 rw [hn,Nat.add_comm]
 simp only [Lib.splitK]
 rw [hi,if_neg (by simp),Int.toNat_natCast]
 simp
theorem dz {b c:UInt8} (h:b ≠ c):¬ (b.toNat:Int)=(c.toNat:Int):=fun e=>h (UInt8.toNat_inj.1 (by omega))
theorem lT (c:UInt8):∀ (s cur:List UInt8),(∀ b ∈ s,b ≠ c)→pcs c.toNat cur s=[cur++s]
 | [],cur,_=>by simp [pcs]
 | b :: s,cur,h=>by
   simp only [pcs]
   rw [if_neg (dz (h b (by simp))),lT c s _ fun x hx=>h x (by simp [hx])]
   simp
theorem ka (c:UInt8) (r:List UInt8):∀ (a cur:List UInt8),(∀ b ∈ a,b ≠ c)→pcs c.toNat cur (a++c :: r)=(cur++a) :: pcs c.toNat [] r
 | [],cur,_=>by simp [pcs]
 | b :: a,cur,h=>by
   rw [List.cons_append]
   simp only [pcs]
   rw [if_neg (dz (h b (by simp))),ka c r a _ fun x hx=>h x (by simp [hx])]
   simp
theorem ly (c:UInt8) (s:List UInt8):Lib.split s [c]=pcs c.toNat [] s:=by
 rcases pZ c s with h | ⟨a,r,rfl,h⟩
 ·rw [Uh h,lT c s [] h]; rfl
 ·rw [Ub h,ka c r a [] h,ly c r]; rfl
termination_by s.length
decreasing_by subst_vars; simp only [List.length_append,List.length_cons]; omega
theorem ZO {l:List UInt8} {v:Int} (h:tq l= .a v):-9223372036854775808 ≤ v∧v ≤ 9223372036854775807:=by
 unfold tq at h
 cases hr:Lib.atoiAll l
 ·rename_i w
  rw [hr] at h
  injection h with h
  subst h
  exact Lib.atoiAll_bounds hr
 ·rw [hr] at h; cases h
 ·rw [hr] at h; cases h
section
variable (L1:List UInt8→List UInt8→Option (List (List UInt8))) (h1:∀ a b,rb a b→L1 a b=some (qf a b)) (L2:List UInt8→Option (Alt Int Int)) (h2:∀ w,rH w→L2 w=some (qB w))
 (L3:Int→Option (List UInt8)) (h3:∀ a,rx a→L3 a=some (qD a))
include h1 h2 h3
theorem gX (l:List (List UInt8)) (hl:l.length ≤ 1048577) (he:∀ w ∈ l,w.length ≤ 1048576):∀ (r:List (List UInt8)) (j e:Nat) (acc:List Int),l.drop j=r→acc.length ≤ j→
  xU L1 L2 L3 (r.length+1+e) l l.length j acc=some (vt r acc)
 | [],j,e,acc,hd,ha=>by
   rw [List.length_nil,ZF]
   simp only [xU]
   rw [if_neg (vd hd)]; rfl
 | w :: r,j,e,acc,hd,ha=>by
   obtain ⟨g1,g2,g3,g4,g5,g6⟩:=we hd
   rw [List.length_cons,yj]
   simp only [xU]
   rw [if_pos g2,g3]
   simp only [Option.bind_some]
   rw [h2 _ (he w (List.mem_of_getElem? g4))]
   simp only [Option.bind_some,vt,qB]
   cases hr:tq w with
   | a v=>
     simp only [Alt.on]
     rw [h3 _ (ZO hr)]
     simp only [Option.bind_some,qD]
     by_cases c:Lib.itoa v=w
     ·rw [if_pos c,if_pos c,if_pos (by unfold tl vQ; simp only [List.length_append,List.length_cons,List.length_nil]; omega),vq g1 (by rw [wm]; omega)]
      exact gX l hl he r (j+1) e _ g5 (by simp only [List.length_append,List.length_cons,List.length_nil]; omega)
     ·rw [if_neg c,if_neg c]
   | b v=>rfl
theorem hJ (s:List UInt8) (h:rA s):∃ N,uP L1 L2 L3 N s=some (zy s):=by
 have h':s.length ≤ 1048576:=h
 refine ⟨(pcs 32 [] s).length+1,?_⟩
 unfold uP zy
 by_cases c:s=[]
 ·rw [if_pos c,if_pos c]
 ·rw [if_neg c,if_neg c,h1 _ _ ⟨h,by simp⟩]
  have e:Lib.split s [32]=pcs 32 [] s:=ly 32 s
  simp only [Option.bind_some,qf,e]
  refine gX L1 h1 L2 h2 L3 h3 _ ?_ ?_ _ 0 0 [] rfl (Nat.zero_le _)
  ·have:=rO 32 s []; omega
  ·intro w hw
   have:=rG 32 s [] w hw
   simp at this; omega
end
def rr (l:List Int):Prop:=yc l
def md (p x:Int):Int:=w64 (p * x)
def wA (l:List Int):Int×Bool:=if decide (l.length ≤ 3)&&l.all oz then (l.foldl md 1,decide (l.foldl md 1 ≤ 1000)) else (0,false)
theorem fw (l:List Int) (hl:yc l):∀ (r:List Int) (j e:Nat) (p:Int),l.drop j=r→
  xV (r.length+1+e) p l l.length j=some (if r.all oz=true then (r.foldl (fun p x=>w64 (p * x)) p,decide (r.foldl (fun p x=>w64 (p * x)) p ≤ 1000)) else (0,false))
 | [],j,e,p,hd=>by
   rw [show ([]:List Int).length+1+e=e+1 by simp; omega]
   simp only [xV]
   rw [if_neg (vd hd)]; rfl
 | x :: r,j,e,p,hd=>by
   obtain ⟨h1,h2,h3,h4,h5,h6⟩:=we hd
   have hb:l.length ≤ big:=by unfold yc at hl; rw [wm]; omega
   rw [show (x :: r).length+1+e=(r.length+1+e)+1 by simp; omega]
   simp only [xV]
   rw [if_pos h2,h3]
   simp only [Option.bind_some,vq h1 hb,List.all_cons,oz,List.foldl_cons]
   by_cases c1:x < 0
   ·rw [if_pos c1]; simp; omega
   ·rw [if_neg c1]
    by_cases c2:1000 < x
    ·rw [if_pos c2]; simp; omega
    ·rw [if_neg c2,fw l hl r (j+1) e _ h5]
     have e1:decide (0 ≤ x)=true:=by simp; omega
     have e2:decide (x ≤ 1000)=true:=by simp; omega
     simp only [e1,e2,Bool.true_and]; rfl
theorem gg (l:List Int) (h:rr l):∃ N,uI N l=some (wA l):=by
 refine ⟨l.length+1,?_⟩
 unfold uI wA
 by_cases c:(3:Int) < l.length
 ·have:¬ l.length ≤ 3:=by omega
  rw [if_pos c]; simp [this]
 ·have:l.length ≤ 3:=by omega
  rw [if_neg c]
  have q:=fw l h l 0 0 1 rfl
  rw [show l.length+1+0=l.length+1 by rfl,show ((0:Nat):Int)=0 by rfl] at q
  rw [q]
  simp only [this,decide_true,Bool.true_and]
  rfl
def rz (s d:List Int):Prop:=yc s∧yc d
def uT (s d:List Int):Bool:=qK s d
def ZD (p q:Int):Prop:=(p ≤ 1000→q=p)∧(1000 < p→q=1001)
theorem dh:∀ (l:List Int) (p q B:Int),0 ≤ p→p ≤ B→B * 1000 ^ l.length ≤ 1000000000→l.all oz=true→ZD p q→ZD (l.foldl md p) (l.foldl sS q)
 | [],p,q,B,h0,hB,hm,ha,hc=>hc
 | x :: l,p,q,B,h0,hB,hm,ha,hc=>by
   simp only [List.all_cons,Bool.and_eq_true,oz,decide_eq_true_eq] at ha
   obtain ⟨⟨x0,x1⟩,ha⟩:=ha
   have hB0:0 ≤ B:=Int.le_trans h0 hB
   have hp1:p * x ≤ B * 1000:=Int.mul_le_mul hB x1 x0 hB0
   have hp0:0 ≤ p * x:=Int.mul_nonneg h0 x0
   have hm':(B * 1000) * 1000 ^ l.length ≤ 1000000000:=by
    rw [List.length_cons,Int.pow_succ,Int.mul_comm (1000 ^ l.length) 1000,← Int.mul_assoc] at hm
    exact hm
   have hpow:(1:Int) ≤ 1000 ^ l.length:=Int.pow_pos (by omega)
   have hBs:B * 1000 ≤ 1000000000:=by
    have:=Int.mul_le_mul_of_nonneg_left hpow (show 0 ≤ B * 1000 by omega)
    omega
   simp only [List.foldl_cons]
   have e1:md p x=p * x:=by unfold md; exact vH (by omega)
   rw [e1]
   refine dh l (p * x) _ (B * 1000) hp0 hp1 hm' ha ?_
   by_cases c:p ≤ 1000
   ·rw [hc.1 c]
    unfold sS
    rw [vH (by omega)]
    constructor
    ·intro h; rw [if_neg (by omega)]
    ·intro h; rw [if_pos h]
   ·rw [hc.2 (by omega)]
    unfold sS
    rw [vH (by omega)]
    by_cases cx:x=0
    ·subst cx
     simp only [Int.mul_zero]
     exact ⟨fun _=>by simp,fun h=>by omega⟩
    ·have hx1:1 ≤ x:=by omega
     have hge:p * 1 ≤ p * x:=Int.mul_le_mul_of_nonneg_left hx1 h0
     constructor
     ·intro h; omega
     ·intro h; rw [if_pos (by omega)]
theorem X0 (l:List Int) (hl:l.length ≤ 3) (ha:l.all oz=true):ZD (l.foldl md 1) (l.foldl sS 1):=by
 refine dh l 1 1 1 (by omega) (by omega) ?_ ha ⟨fun _=>rfl,fun h=>by omega⟩
 rw [Int.one_mul]
 have:l.length=0 ∨ l.length=1 ∨ l.length=2 ∨ l.length=3:=by omega
 rcases this with h | h | h | h <;> rw [h] <;> decide
theorem dW (l:List Int):(wA l).2=mo l∧(mo l=true→(wA l).1=l.foldl sS 1):=by
 unfold wA mo
 by_cases c:l.length ≤ 3
 ·cases ha:l.all oz with
  | false=>simp
  | true=>
    have hc:=X0 l c ha
    simp only [c,decide_true,Bool.true_and,if_true]
    by_cases h:l.foldl md 1 ≤ 1000
    ·rw [hc.1 h]; exact ⟨rfl,fun _=>rfl⟩
    ·have e:=hc.2 (by omega)
     rw [e]
     refine ⟨by simp [h],fun q=>by simp at q⟩
 ·simp [c]
theorem mL (L:List Int→Option (Int×Bool)) (l:List Int) (hl:yc l):∀ (r:List Int) (j e:Nat),l.drop j=r→xQ L (r.length+1+e) l l.length j=some (r.all nq)
 | [],j,e,hd=>by
   rw [show ([]:List Int).length+1+e=e+1 by simp; omega]
   simp only [xQ]
   rw [if_neg (vd hd)]; rfl
 | x :: r,j,e,hd=>by
   obtain ⟨h1,h2,h3,h4,h5,h6⟩:=we hd
   have hb:l.length ≤ big:=by unfold yc at hl; rw [wm]; omega
   rw [show (x :: r).length+1+e=(r.length+1+e)+1 by simp; omega]
   simp only [xQ]
   rw [if_pos h2,h3]
   simp only [Option.bind_some,vq h1 hb,List.all_cons,nq]
   by_cases c1:x < -3000000000
   ·rw [if_pos c1]; simp; omega
   ·rw [if_neg c1]
    by_cases c2:3000000000 < x
    ·rw [if_pos c2]; simp; omega
    ·rw [if_neg c2,mL L l hl r (j+1) e h5]
     have e1:decide (-3000000000 ≤ x)=true:=by simp; omega
     have e2:decide (x ≤ 3000000000)=true:=by simp; omega
     rw [e1,e2]; simp
theorem gM (L:List Int→Option (Int×Bool)) (hL:∀ l,rr l→L l=some (wA l)) (s d:List Int) (h:rz s d):
  ∃ N,uE L N s d=some (uT s d):=by
 refine ⟨d.length+1,?_⟩
 unfold uE uT qK
 rw [hL _ h.1]
 simp only [Option.bind_some]
 obtain ⟨e1,e2⟩:=dW s
 rw [e1]
 have q:=mL L d h.2 d 0 0 rfl
 rw [show d.length+1+0=d.length+1 by rfl,show ((0:Nat):Int)=0 by rfl] at q
 rw [q]
 cases hf:mo s with
 | false=>simp
 | true=>
   rw [e2 hf]
   by_cases c:s.foldl sS 1=(d.length:Int)
   ·simp [c]
   ·have c':¬ (d.length:Int)=s.foldl sS 1:=fun q=>c q.symm
    simp [c,c']
def qm (s:List UInt8):Prop:=s.length ≤ 1048576
def yx (s:List UInt8):List Int×List Int×Int:=yg s
theorem QJ {s d:List Int} (h:qK s d=true):(∀ x ∈ s,dOk x)∧∀ x ∈ d,dOk x:=by
 simp only [qK,mo,Bool.and_eq_true,List.all_eq_true,oz,nq,decide_eq_true_eq] at h
 obtain ⟨⟨⟨⟨h1,h2⟩,h3⟩,h4⟩,h5⟩:=h
 exact ⟨fun x hx=>by have:=h2 x hx; unfold dOk; omega,fun x hx=>by have:=h5 x hx; unfold dOk; omega⟩
theorem O4 {c:UInt8} {s:List UInt8} (h:∀ b ∈ s,b ≠ c):Lib.cut s [c]=(s,[],false):=by
 unfold Lib.cut; rw [jr c s h,if_neg (by omega)]
theorem Pa {c:UInt8} {a r:List UInt8} (h:∀ b ∈ a,b ≠ c):Lib.cut (a++c :: r) [c]=(a,r,true):=by
 unfold Lib.cut
 rw [jG c r a h,if_pos (by omega),Int.toNat_natCast]
 simp
theorem qu {d:Nat} (h:d < 10):(UInt8.ofNat (48+d)).toNat=48+d:=by
 rw [UInt8.toNat_ofNat']; omega
theorem jn {n:Nat} (h:¬ n < 10):Lib.decDigits n=Lib.decDigits (n / 10)++[UInt8.ofNat (48+n % 10)]:=by rw [Lib.decDigits,dif_neg h]
theorem pO (n:Nat):∀ b ∈ Lib.decDigits n,48 ≤ b.toNat∧b.toNat ≤ 57:=by
 by_cases h:n < 10
 ·rw [Lib.decDigits_one h]
  intro b hb
  simp only [List.mem_singleton] at hb
  subst hb
  rw [qu h]; omega
 ·rw [jn h]
  intro b hb
  rcases List.mem_append.1 hb with hb | hb
  ·exact pO (n / 10) b hb
  ·simp only [List.mem_singleton] at hb
   subst hb
   rw [qu (by omega)]; omega
termination_by n
decreasing_by omega
theorem W8 (n:Int):∀ b ∈ Lib.itoa n,b=45 ∨ 48 ≤ b.toNat∧b.toNat ≤ 57:=by
 intro b hb
 unfold Lib.itoa at hb
 split at hb
 ·rcases List.mem_cons.1 hb with rfl | hb
  ·exact .inl rfl
  ·exact .inr (pO _ b hb)
 ·exact .inr (pO _ b hb)
theorem fp:∀ (r:List (List UInt8)) (acc:List Int),(vt r acc).2=true→∀ w ∈ r,∃ v,Lib.itoa v=w
 | [],acc,_,w,hw=>by cases hw
 | y :: r,acc,h,w,hw=>by
   simp only [vt] at h
   split at h
   ·rename_i v hv
    split at h
    ·rename_i c
     rcases List.mem_cons.1 hw with rfl | hw
     ·exact ⟨v,c⟩
     ·exact fp r _ h w hw
    ·cases h
   ·cases h
theorem jA (c:Int) (x:UInt8) (hx:¬ (x.toNat:Int)=c):∀ (r cur:List UInt8),(x ∈ cur ∨ x ∈ r)→∃ w ∈ pcs c cur r,x ∈ w
 | [],cur,h=>⟨cur,by simp [pcs],by simpa using h⟩
 | b :: r,cur,h=>by
   simp only [pcs]
   split
   ·rename_i hb
    rcases h with h | h
    ·exact ⟨cur,by simp,h⟩
    ·rcases List.mem_cons.1 h with rfl | h
     ·exact absurd hb hx
     ·obtain ⟨w,h1,h2⟩:=jA c x hx r [] (.inr h)
      exact ⟨w,by simp [h1],h2⟩
   ·refine jA c x hx r (cur++[b]) ?_
    rcases h with h | h
    ·exact .inl (by simp [h])
    ·rcases List.mem_cons.1 h with rfl | h
     ·exact .inl (by simp)
     ·exact .inr h
theorem aA {s:List UInt8} {x:UInt8} (hx:x ∈ s) (h1:x ≠ 45) (h2:¬ (48 ≤ x.toNat∧x.toNat ≤ 57)) (h3:x ≠ 32):(zy s).2=false:=by
 unfold zy
 rw [if_neg (by rintro rfl; cases hx)]
 cases hc:(vt (pcs 32 [] s) []).2 with
 | false=>rfl
 | true=>
   obtain ⟨w,hw,hxw⟩:=jA 32 x (fun e=>h3 (UInt8.toNat_inj.1 (by show x.toNat=32; omega))) s [] (.inr hx)
   obtain ⟨v,rfl⟩:=fp _ _ hc w hw
   rcases W8 v x hxw with h | h
   ·exact absurd h h1
   ·exact absurd h h2
theorem gU:∀ (r:List (List UInt8)) (acc:List Int),(vt r acc).1.length ≤ acc.length+r.length
 | [],acc=>by simp [vt]
 | w :: r,acc=>by
   simp only [vt]
   split
   ·split
    ·rename_i v _ _
     have:=gU r (acc++[v])
     simp only [List.length_append,List.length_cons,List.length_nil] at this ⊢; omega
    ·simp
   ·simp
theorem nS {s:List UInt8} (h:s.length ≤ 20000):yc (zy s).1:=by
 unfold zy yc
 split
 ·simp
 ·have:=gU (pcs 32 [] s) []
  have h2:=rO 32 s []
  simp only [List.length_nil] at this; omega
theorem ek (n:Nat):Lib.decDigits n ≠ []:=by
 intro h
 have:=Lib.decDigits_length n
 rw [h] at this
 have:=Lib.nDigits_pos n
 simp at *; omega
theorem fk:∀ (l:List UInt8) (acc m:Nat) (d:Nat),Lib.parseUint10 acc l= .ok m→d < 10→m * 10+d < 18446744073709551616→Lib.parseUint10 acc (l++[UInt8.ofNat (48+d)])= .ok (m * 10+d)
 | [],acc,m,d,h,hd,hm=>by
   simp only [Lib.parseUint10] at h
   injection h with h
   subst h
   simp only [List.nil_append,Lib.parseUint10,qu hd]
   rw [if_pos (by omega),if_neg (by omega),if_neg (by omega)]
   congr 1
   omega
 | c :: l,acc,m,d,h,hd,hm=>by
   rw [List.cons_append]
   simp only [Lib.parseUint10] at h ⊢
   split at h
   ·rename_i c1
    rw [if_pos c1]
    split at h
    ·cases h
    ·rename_i c2
     rw [if_neg c2]
     split at h
     ·cases h
     ·rename_i c3
      rw [if_neg c3]
      exact fk l _ m d h hd hm
   ·cases h
theorem lp (n:Nat) (h:n < 18446744073709551616):Lib.parseUint10 0 (Lib.decDigits n)= .ok n:=by
 by_cases c:n < 10
 ·rw [Lib.decDigits_one c]
  simp only [Lib.parseUint10,qu c]
  rw [if_pos (by omega),if_neg (by omega),if_neg (by omega)]
  congr 1
  omega
 ·rw [jn c]
  have:=fk _ 0 (n / 10) (n % 10) (lp (n / 10) (by omega)) (by omega) (by omega)
  rw [this]
  congr 1
  omega
termination_by n
decreasing_by omega
theorem We {v:Int} (h:-9223372036854775808 ≤ v∧v ≤ 9223372036854775807):tq (Lib.itoa v)= .a v:=by
 have key:Lib.atoiAll (Lib.itoa v)= .ok v:=by
  unfold Lib.itoa
  by_cases c:v < 0
  ·rw [if_pos c]
   unfold Lib.atoiAll
   simp only
   rw [if_pos (.inr (by rfl))]
   have hm:Lib.parseMag (Lib.decDigits v.natAbs)= .ok v.natAbs:=by
    unfold Lib.parseMag; rw [if_neg (ek _)]; exact lp _ (by omega)
   rw [hm]
   simp only
   have h45:(45:UInt8).toNat=45:=rfl
   rw [if_neg (by rw [h45]; simp),if_neg (by omega),if_pos h45]
   congr 1
   omega
  ·rw [if_neg c]
   cases hd:Lib.decDigits v.toNat with
   | nil=>exact absurd hd (ek _)
   | cons b r=>
     have hb:=pO v.toNat b (by rw [hd]; simp)
     unfold Lib.atoiAll
     simp only
     rw [if_neg (by omega),← hd]
     have hm:Lib.parseMag (Lib.decDigits v.toNat)= .ok v.toNat:=by
      unfold Lib.parseMag; rw [if_neg (ek _)]; exact lp _ (by omega)
     rw [hm]
     simp only
     rw [if_neg (by omega),if_neg (by omega),if_neg (by omega)]
     congr 1
     omega
 unfold tq; rw [key]
theorem bY:∀ (r:List UInt8) (f:Bool) (v:Int) (k:Nat),j7 v k→∀ p,gN f r v k=some p→j7 p.1 p.2
 | [],f,v,k,h,p,hp=>by simp only [gN,Option.some.injEq] at hp; subst hp; exact h
 | c :: r,f,v,k,h,p,hp=>by
   simp only [gN] at hp
   split at hp
   ·rename_i q
    exact bY r false _ _ (dZ h q.2 (by have:=q.1.1; omega) (by have:=q.1.2; omega)) p hp
   ·split at hp
    ·cases hp
    ·split at hp
     ·exact bY r false v k h p hp
     ·cases hp
theorem Yt {w:List UInt8} (h:(sx w).2=true):Lib.itoa (sx w).1=w∧-9999999999 ≤ (sx w).1∧(sx w).1 ≤ 9999999999:=by
 unfold sx at h ⊢
 cases hg:gN true w 0 0 with
 | none=>rw [hg] at h; cases h
 | some p=>
   rw [hg] at h
   have hin:=bY w true 0 0 ⟨by omega,by simp,by omega⟩ p hg
   have hp:=jJ hin.2.2
   have h1:=hin.2.1
   have h0:=hin.1
   simp only at h ⊢
   unfold lw at h ⊢
   split
   ·rename_i c
    rw [if_pos c] at h
    simp only [Bool.and_eq_true,decide_eq_true_eq] at h
    exact ⟨h.2,by omega,by omega⟩
   ·rename_i c
    rw [if_neg c] at h
    simp only [Bool.and_eq_true,decide_eq_true_eq] at h
    exact ⟨h.2,by omega,by omega⟩
theorem bh:∀ (r:List (List UInt8)) (acc:List Int),(rk r acc).2=true→vt r acc=rk r acc
 | [],acc,_=>rfl
 | w :: r,acc,h=>by
   simp only [rk,vt] at h ⊢
   by_cases c:(sx w).2=false
   ·rw [if_pos c] at h; cases h
   ·rw [if_neg c] at h ⊢
    obtain ⟨h1,h2,h3⟩:=Yt (by simpa using c)
    have ha:tq w= .a (sx w).1:=by
     have:=We (v:=(sx w).1) (by omega)
     rw [h1] at this; exact this
    rw [ha]
    simp only
    rw [if_pos h1]
    exact bh r _ h
theorem kg {s:List UInt8} (h:(zB s).2=true):zy s=zB s:=by
 unfold zB zy at *
 split
 ·rfl
 ·rename_i c
  rw [if_neg c] at h
  exact bh _ _ h
theorem XS:∀ (l:List UInt8) (f:Bool) (v:Int) (k:Nat) (d:Nat) (p:Int×Nat),(∀ b ∈ l,dgB b)→gN f l v k=some p→d < 10→p.2 < 10→gN f (l++[UInt8.ofNat (48+d)]) v k=some (p.1 * 10+d,p.2+1)
 | [],f,v,k,d,p,_,h,hd,hp=>by
   simp only [gN,Option.some.injEq] at h
   subst h
   have e:=qu hd
   simp only [List.nil_append,gN]
   rw [if_pos ⟨⟨by rw [e]; omega,by rw [e]; omega⟩,hp⟩,e]
   congr 2
   omega
 | c :: l,f,v,k,d,p,hl,h,hd,hp=>by
   rw [List.cons_append]
   simp only [gN] at h ⊢
   have hc:dgB c:=hl c (by simp)
   split at h
   ·rename_i q
    rw [if_pos q]
    exact XS l false _ _ d p (fun b hb=>hl b (by simp [hb])) h hd hp
   ·rename_i q
    have hk:¬ k < 10:=fun h'=>q ⟨hc,h'⟩
    have h45:¬ (c.toNat:Int)=45:=by have:=hc.1; omega
    split at h
    ·cases h
    ·first | (rw [if_neg h45] at h; cases h) | cases h
theorem eW (n:Nat) (f:Bool) (h:Lib.nDigits n ≤ 10):gN f (Lib.decDigits n) 0 0=some ((n:Int),Lib.nDigits n):=by
 by_cases c:n < 10
 ·rw [Lib.decDigits_one c,Lib.nDigits_small c]
  have e:=qu c
  simp only [gN]
  rw [if_pos ⟨⟨by rw [e]; omega,by rw [e]; omega⟩,by omega⟩,e]
  congr 2
  omega
 ·have hn:=Lib.nDigits_big c
  rw [jn c]
  have ih:=eW (n / 10) f (by omega)
  have:=XS _ f 0 0 (n % 10) _ (fun b hb=>by have:=pO (n / 10) b hb; exact ⟨by omega,by omega⟩) ih (by omega) (by simp only; omega)
  rw [this,hn]
  congr 2
  simp only
  omega
termination_by n
decreasing_by omega
theorem X5 {v:Int} (h:-9999999999 ≤ v∧v ≤ 9999999999):sx (Lib.itoa v)=(v,true):=by
 by_cases c:v < 0
 ·have hi:Lib.itoa v=45 :: Lib.decDigits v.natAbs:=by unfold Lib.itoa; rw [if_pos c]
  have hd:Lib.nDigits v.natAbs ≤ 10:=eh 9 v.natAbs (by omega)
  have hg:gN true (Lib.itoa v) 0 0=some ((v.natAbs:Int),Lib.nDigits v.natAbs):=by
   rw [hi]
   simp only [gN]
   rw [if_neg (fun q=>by have:=q.1.1; have e:(45:UInt8).toNat=45:=rfl; rw [e] at this; omega),if_neg (by simp),if_pos (by rfl)]
   exact eW _ false hd
  unfold sx
  rw [hg]
  simp only
  unfold lw
  have hpos:=Lib.nDigits_pos v.natAbs
  have e2:-(v.natAbs:Int)=v:=by omega
  rw [if_pos (by rw [hi]; rfl),e2]
  simp; omega
 ·have hi:Lib.itoa v=Lib.decDigits v.toNat:=by unfold Lib.itoa; rw [if_neg c]
  have hd:Lib.nDigits v.toNat ≤ 10:=eh 9 v.toNat (by omega)
  have hg:gN true (Lib.itoa v) 0 0=some ((v.toNat:Int),Lib.nDigits v.toNat):=by rw [hi]; exact eW _ true hd
  unfold sx
  rw [hg]
  simp only
  unfold lw
  have hpos:=Lib.nDigits_pos v.toNat
  have e2:(v.toNat:Int)=v:=by omega
  have hne:¬ (Lib.itoa v).head?=some 45:=by
   rw [hi]
   cases hd':Lib.decDigits v.toNat with
   | nil=>simp
   | cons b r=>
     have:=pO v.toNat b (by rw [hd']; simp)
     simp only [List.head?_cons,Option.some.injEq]
     intro q
     subst q
     have e:(45:UInt8).toNat=45:=rfl
     omega
  rw [if_neg hne,e2]
  simp; omega
theorem gV:∀ (r:List (List UInt8)) (acc:List Int),(vt r acc).2=true→∀ x ∈ acc,x ∈ (vt r acc).1
 | [],acc,_,x,hx=>hx
 | w :: r,acc,h,x,hx=>by
   simp only [vt] at h ⊢
   split at h
   ·rename_i v hv
    split at h
    ·rename_i c
     rw [if_pos c]
     exact gV r _ h x (by simp [hx])
    ·cases h
   ·cases h
theorem fh:∀ (r:List (List UInt8)) (acc:List Int),(vt r acc).2=true→(∀ x ∈ (vt r acc).1,dOk x)→rk r acc=vt r acc
 | [],acc,_,_=>rfl
 | w :: r,acc,h,hd=>by
   simp only [rk,vt] at h hd ⊢
   cases hr:tq w with
   | a v=>
     rw [hr] at h hd
     simp only at h hd ⊢
     by_cases c:Lib.itoa v=w
     ·rw [if_pos c] at h hd ⊢
      have hv:dOk v:=hd v (gV r _ h v (by simp))
      have hs:sx w=(v,true):=by rw [← c]; exact X5 hv
      rw [hs,if_neg (by simp)]
      exact fh r _ h hd
     ·rw [if_neg c] at h; cases h
   | b v=>rw [hr] at h; cases h
theorem eB {s:List UInt8} (h:(zy s).2=true) (hd:∀ x ∈ (zy s).1,dOk x):zB s=zy s:=by
 unfold zB zy at *
 split
 ·rfl
 ·rename_i c
  rw [if_neg c] at h hd
  exact fh _ _ h hd
theorem kL (L1:List UInt8→List UInt8→Option (List UInt8×List UInt8×Bool)) (h1:∀ a b,rX a b→L1 a b=some (pn a b)) (L2:List UInt8→Option (List Int×Bool)) (h2:∀ w,rA w→L2 w=some (zy w))
  (L3:List Int→List Int→Option Bool) (h3:∀ s d,rz s d→L3 s d=some (uT s d)) (s:List UInt8) (h:qm s):∃ N,w9 L1 L2 L3 N s=some (yx s):=by
 refine ⟨0,?_⟩
 unfold w9 yx yg
 by_cases c:20000 < s.length
 ·rw [if_pos (by omega),if_pos c]
 rw [if_neg (by omega),if_neg c,h1 _ _ h]
 simp only [Option.bind_some,pn]
 rcases pZ 58 s with hn | ⟨a,b,rfl,hn⟩
 ·have e:pcs 58 [] s=[s]:=lT 58 s [] hn
  rw [O4 hn,e,if_pos rfl]
 ·have hl:a.length ≤ 20000∧b.length ≤ 20000:=by simp only [List.length_append,List.length_cons] at c; omega
  have hpa:pcs 58 [] (a++58 :: b)=a :: pcs 58 [] b:=ka 58 b a [] hn
  rw [Pa hn,hpa,if_neg (by simp)]
  simp only
  rw [h2 _ (show a.length ≤ 1048576 by omega),h2 _ (show b.length ≤ 1048576 by omega)]
  simp only [Option.bind_some]
  rcases pZ 58 b with hm | ⟨a',b',rfl,hm⟩
  ·have hpb:pcs 58 [] b=[b]:=lT 58 b [] hm
   rw [hpb]
   simp only
   by_cases c1:(zy a).2=false
   ·rw [if_pos c1,if_neg (fun q=>by rw [kg q.1,q.1] at c1; cases c1)]
   ·rw [if_neg c1]
    by_cases c2:(zy b).2=false
    ·rw [if_pos c2,if_neg (fun q=>by rw [kg q.2.1,q.2.1] at c2; cases c2)]
    ·rw [if_neg c2,h3 _ _ ⟨nS hl.1,nS hl.2⟩]
     simp only [Option.bind_some,uT]
     by_cases c3:qK (zy a).1 (zy b).1=false
     ·rw [if_pos c3,if_neg (fun q=>by rw [kg q.1,kg q.2.1,q.2.2] at c3; cases c3)]
     ·have c3':qK (zy a).1 (zy b).1=true:=by simpa using c3
      obtain ⟨k1,k2⟩:=QJ c3'
      have e1:=eB (by simpa using c1) k1
      have e2:=eB (by simpa using c2) k2
      rw [if_neg c3,e1,e2,if_pos ⟨by simpa using c1,by simpa using c2,c3'⟩]
  ·have hf:(zy (a'++58 :: b')).2=false:=aA (x:=58) (by simp) (by decide) (by decide) (by decide)
   have hp3:∃ u v r,a :: pcs 58 [] (a'++58 :: b')=a :: u :: v :: r:=by
    have e:pcs 58 [] (a'++58 :: b')=a' :: pcs 58 [] b':=ka 58 b' a' [] hm
    rw [e]
    cases hq:pcs 58 [] b' with
    | nil=>
      exfalso
      rcases pZ 58 b' with hz | ⟨p,q,rfl,hz⟩
      ·have e2:pcs 58 [] b'=[b']:=lT 58 b' [] hz
       rw [e2] at hq; cases hq
      ·have e2:pcs 58 [] (p++58 :: q)=p :: pcs 58 [] q:=ka 58 q p [] hz
       rw [e2] at hq; cases hq
    | cons v r=>exact ⟨a',v,r,rfl⟩
   obtain ⟨u,v,r,he⟩:=hp3
   rw [he]
   simp only
   by_cases c1:(zy a).2=false
   ·rw [if_pos c1]
   ·rw [if_neg c1,if_pos hf]
def qp (s:List UInt8):Prop:=s.length ≤ 1048576
def uu (s:List UInt8):List Int×Int×Int:=(zS (qN yx s).1,(qN yx s).2.1,(qN yx s).2.2)
def zK (ts:List TTest):List (List Int):=ts.flatMap fun t=>[t.In_Shape,t.In_Data,t.Want_Shape,t.Want_Data]
theorem xN (t:TTest) (ts:List TTest):zK (t :: ts)=t.In_Shape :: t.In_Data :: t.Want_Shape :: t.Want_Data :: zK ts:=rfl
theorem rT:∀ ts:List TTest,(zK ts).length=ts.length * 4
 | []=>rfl
 | t :: ts=>by simp only [xN,List.length_cons,rT ts]; omega
theorem me:∀ (a b:List TTest),zK (a++b)=zK a++zK b
 | [],b=>rfl
 | t :: a,b=>by rw [List.cons_append,xN,me a b,xN]; rfl
theorem aK:∀ (r:List (List UInt8)) (i:Nat) (acc:List TTest),t8 (p8 yg) (r.map fun l=>⟨l.toArray⟩) i (zK acc)=(zK (p5 r i acc).1,(p5 r i acc).2.1,(p5 r i acc).2.2)
 | [],_,acc=>rfl
 | x :: r,i,acc=>by
   have ex:(⟨x.toArray⟩:ByteArray).toList=x:=by rw [ByteArray.toList_eq]
   simp only [List.map_cons,t8,p5,ex]
   by_cases c:x=[]
   ·subst c
    rw [if_pos (show ([]:List UInt8).isEmpty=true from rfl),if_pos rfl,aK r (i+1) acc]
   ·rw [if_neg (by simpa using c),if_neg c]
    have e1:(p8 yg ⟨x.toArray⟩).ok=(Lib.cut x arrow).2.2:=rfl
    have e2:(p8 yg ⟨x.toArray⟩).a=yg (Lib.cut x arrow).1:=rfl
    have e3:(p8 yg ⟨x.toArray⟩).b=yg (Lib.cut x arrow).2.1:=rfl
    rw [e1,e2,e3,rT]
    by_cases c1:(Lib.cut x arrow).2.2=true
    ·have es:zJ x=((yg (Lib.cut x arrow).1).1,(yg (Lib.cut x arrow).1).2.1,(yg (Lib.cut x arrow).2.1).1,(yg (Lib.cut x arrow).2.1).2.1,decide ((yg (Lib.cut x arrow).1).2.2=0)&&decide ((yg (Lib.cut x arrow).2.1).2.2=0)):=if_pos c1
     rw [es]
     by_cases c2:(yg (Lib.cut x arrow).1).2.2=0
     ·by_cases c3:(yg (Lib.cut x arrow).2.1).2.2=0
      ·rw [if_neg (show ¬ ((Lib.cut x arrow).2.2=false ∨ (yg (Lib.cut x arrow).1).2.2 ≠ 0 ∨ (yg (Lib.cut x arrow).2.1).2.2 ≠ 0) by rw [c1,c2,c3]; simp),
        if_neg (show ¬ ((decide ((yg (Lib.cut x arrow).1).2.2=0)&&decide ((yg (Lib.cut x arrow).2.1).2.2=0))=false) by rw [c2,c3]; simp)]
       by_cases c4:acc.length=20
       ·rw [if_pos (by omega),if_pos c4]; rfl
       ·rw [if_neg (by omega),if_neg c4,← aK r (i+1),me]; rfl
      ·rw [if_pos (.inr (.inr c3)),if_pos (by simp [c3])]; rfl
     ·rw [if_pos (.inr (.inl c2)),if_pos (by simp [c2])]; rfl
    ·have es:zJ x=([],[],[],[],false):=if_neg c1
     rw [es,if_pos (.inl (by simpa using c1)),if_pos rfl]; rfl
theorem kP (s:List UInt8):uu s=(zS (zK (zQ s).1),(zQ s).2.1,(zQ s).2.2):=by
 have h:qN yx s=(zK (zQ s).1,(zQ s).2.1,(zQ s).2.2):=by
  unfold qN zQ
  by_cases c:50000 < s.length
  ·rw [if_pos c,if_pos c]; rfl
  ·rw [if_neg c,if_neg c,show Lib.split s [10]=pcs 10 [] s from ly 10 s]
   exact aK (pcs 10 [] s) 0 []
 unfold uu
 rw [h]
def qh (a b:List Int):Prop:=yc a
def tM (a b:List Int):Bool:=decide (a=b)
theorem dM (a b:List Int) (ha:yc a) (hab:a.length=b.length):∀ (r t:List Int) (j e:Nat),a.drop j=r→b.drop j=t→wu (r.length+1+e) a b j=some (decide (r=t))
 | [],t,j,e,hd,hd'=>by
   have h:=vd hd
   rw [show ([]:List Int).length+1+e=e+1 by simp; omega]
   simp only [wu]
   have:t=[]:=by rw [← hd']; exact List.drop_eq_nil_of_le (by omega)
   rw [if_neg h,this]; rfl
 | x :: r,t,j,e,hd,hd'=>by
   obtain ⟨h1,h2,h3,h4,h5,h6⟩:=we hd
   have hb:a.length ≤ big:=by unfold yc at ha; rw [wm]; omega
   cases t with
   | nil=>have:=vd hd'; omega
   | cons y t=>
     obtain ⟨g1,g2,g3,g4,g5,g6⟩:=we hd'
     rw [show (x :: r).length+1+e=(r.length+1+e)+1 by simp; omega]
     simp only [wu]
     rw [if_pos h2,h3,g3]
     simp only [Option.bind_some]
     rw [vq h1 hb,dM a b ha hab r t (j+1) e h5 g5]
     by_cases c:x=y
     ·rw [if_pos c]; simp [c]
     ·rw [if_neg c]; simp [c]
theorem fM (a b:List Int) (h:qh a b):∃ N,tD N a b=some (tM a b):=by
 refine ⟨a.length+1,?_⟩
 unfold tD tM
 by_cases c:(a.length:Int)=b.length
 ·rw [if_pos c]
  exact dM a b h (by omega) a b 0 0 rfl rfl
 ·rw [if_neg c]
  have:¬ a=b:=by rintro rfl; exact c rfl
  simp [this]
def rt (s d s' d':List Int):Prop:=yc s∧yc d
def vE (s d s' d':List Int):Bool:=decide (s=s')&&decide (d=d')
theorem gi (L:List Int→List Int→Option Bool) (hL:∀ a b,qh a b→L a b=some (tM a b)) (s d s' d':List Int) (h:rt s d s' d'):
  ∃ N,uQ L N s d s' d'=some (vE s d s' d'):=by
 refine ⟨0,?_⟩
 unfold uQ vE
 rw [hL _ _ h.1,hL _ _ h.2]
 simp only [Option.bind_some,tM]
 by_cases c:s=s' <;> by_cases c':d=d' <;> simp [c,c']
def sm (a b c d a' b' c' d':List Int):Prop:=yc a∧yc b∧yc c∧yc d
def wV (a b c d a' b' c' d':List Int):Bool:=decide (a=a')&&decide (b=b')&&(decide (c=c')&&decide (d=d'))
theorem fZ (L:List Int→List Int→List Int→List Int→Option Bool) (hL:∀ s d s' d',rt s d s' d'→L s d s' d'=some (vE s d s' d')) (a b c d a' b' c' d':List Int) (h:sm a b c d a' b' c' d'):
  ∃ N,tB L N a b c d a' b' c' d'=some (wV a b c d a' b' c' d'):=by
 refine ⟨0,?_⟩
 obtain ⟨h1,h2,h3,h4⟩:=h
 unfold tB wV
 rw [hL _ _ _ _ ⟨h1,h2⟩]
 simp only [Option.bind_some,vE]
 by_cases c1:(decide (a=a')&&decide (b=b'))=false
 ·rw [if_pos c1,c1]; rfl
 ·rw [if_neg c1,hL _ _ _ _ ⟨h3,h4⟩]
  simp only [Option.bind_some,vE]
  rw [Bool.not_eq_false] at c1
  rw [c1]
  by_cases c2:(decide (c=c')&&decide (d=d'))=false
  ·rw [if_pos c2,c2]; rfl
  ·rw [if_neg c2]
   rw [Bool.not_eq_false] at c2
   rw [c2]; rfl
def od (ts:List TTest):Prop:=ts.length ≤ 20∧∀ l ∈ zK ts,l.length ≤ 20001
def rJ (a b:List TTest):Prop:=od a
def wv (a b:List TTest):Bool:=decide (a=b)
theorem Xp {ts:List TTest} (h:od ts) {t:TTest} (ht:t ∈ ts):yc t.In_Shape∧yc t.In_Data∧yc t.Want_Shape∧yc t.Want_Data:=by
 have hm:∀ l,l ∈ [t.In_Shape,t.In_Data,t.Want_Shape,t.Want_Data]→yc l:=fun l hl=>by
  have:=h.2 l (List.mem_flatMap.2 ⟨t,ht,hl⟩)
  unfold yc; omega
 exact ⟨hm _ (by simp),hm _ (by simp),hm _ (by simp),hm _ (by simp)⟩
theorem TZ (x y:TTest):wV x.In_Shape x.In_Data x.Want_Shape x.Want_Data y.In_Shape y.In_Data y.Want_Shape y.Want_Data=decide (x=y):=by
 cases x; cases y
 unfold wV
 simp only [TTest.mk.injEq,Bool.decide_and,Bool.and_assoc]
theorem fq (L:List Int→List Int→List Int→List Int→List Int→List Int→List Int→List Int→Option Bool) (hL:∀ a b c d a' b' c' d',sm a b c d a' b' c' d'→L a b c d a' b' c' d'=some (wV a b c d a' b' c' d'))
  (a b:List TTest) (ha:od a) (hab:a.length=b.length):∀ (r t:List TTest) (j e:Nat),a.drop j=r→b.drop j=t→wb L (r.length+1+e) a b j=some (decide (r=t))
 | [],t,j,e,hd,hd'=>by
   have h:=vd hd
   rw [show ([]:List TTest).length+1+e=e+1 by simp; omega]
   simp only [wb]
   have:t=[]:=by rw [← hd']; exact List.drop_eq_nil_of_le (by omega)
   rw [if_neg h,this]; rfl
 | x :: r,t,j,e,hd,hd'=>by
   obtain ⟨h1,h2,h3,h4,h5,h6⟩:=we hd
   have hb:a.length ≤ big:=by have:=ha.1; rw [wm]; omega
   cases t with
   | nil=>have:=vd hd'; omega
   | cons y t=>
     obtain ⟨g1,g2,g3,g4,g5,g6⟩:=we hd'
     rw [show (x :: r).length+1+e=(r.length+1+e)+1 by simp; omega]
     simp only [wb]
     rw [if_pos h2,h3,g3]
     simp only [Option.bind_some]
     rw [hL _ _ _ _ _ _ _ _ (Xp ha (List.mem_of_getElem? h4)),TZ]
     simp only [Option.bind_some]
     rw [vq h1 hb,fq L hL a b ha hab r t (j+1) e h5 g5]
     by_cases c:x=y
     ·rw [if_neg (by simp [c])]; simp [c]
     ·rw [if_pos (by simp [c])]; simp [c]
theorem iT (L:List Int→List Int→List Int→List Int→List Int→List Int→List Int→List Int→Option Bool) (hL:∀ a b c d a' b' c' d',sm a b c d a' b' c' d'→L a b c d a' b' c' d'=some (wV a b c d a' b' c' d'))
  (a b:List TTest) (h:rJ a b):∃ N,tc L N a b=some (wv a b):=by
 refine ⟨a.length+1,?_⟩
 unfold tc wv
 by_cases c:(a.length:Int)=b.length
 ·rw [if_pos c]
  exact fq L hL a b h (by omega) a b 0 0 rfl rfl
 ·rw [if_neg c]
  have:¬ a=b:=by rintro rfl; exact c rfl
  simp [this]
def sO (a:List Int) (b:List TTest):Prop:=∃ ts,a=zS (zK ts)∧od ts
def wq (a:List Int) (b:List TTest):Bool×List Int:=(decide (a=zS (zK b)),a)
theorem il:∀ {a b:List TTest},zK a=zK b→a=b
 | [],[],_=>rfl
 | [],t :: b,h=>by rw [xN] at h; cases h
 | t :: a,[],h=>by rw [xN] at h; cases h
 | t :: a,u :: b,h=>by
   rw [xN,xN] at h
   simp only [List.cons.injEq] at h
   obtain ⟨h1,h2,h3,h4,h5⟩:=h
   rw [il h5]
   cases t; cases u
   simp only at h1 h2 h3 h4
   subst h1 h2 h3 h4
   rfl
theorem jy {a:List Int} {b:List TTest} (h:sO a b):∃ ts,a=zS (zK ts)∧rJ ts b∧wq a b=(wv ts b,a):=by
 obtain ⟨ts,rfl,h⟩:=h
 refine ⟨ts,rfl,h,?_⟩
 unfold wq wv
 congr 1
 by_cases c:ts=b
 ·subst c; simp
 ·rw [decide_eq_false c,decide_eq_false]
  exact fun e=>c (il (pc e))
def s9 (l:List Int) (k:Int):Prop:=yc l∧0 ≤ k∧k ≤ 16777216
def xT (k:Int):Nat→List Int
 | 0=>[]
 | n+1=>k :: xT (k+1) n
def vZ (l:List Int) (k:Int):Int×List Int:=(k+l.length,xT k l.length)
theorem oH:∀ (n:Nat) (k:Int),sb k n=xT k n
 | 0,_=>rfl
 | n+1,k=>by simp only [sb,xT,oH n]
theorem oV {l:List Int} {k:Int} (h1:l.length ≤ 1048576) (h2:0 ≤ k) (h3:k ≤ 16777216):s9 l k∧vZ l k=(k+l.length,sb k l.length):=
 ⟨⟨h1,h2,h3⟩,by rw [oH]; rfl⟩
theorem ip (n:Nat) (hn:n ≤ 1048576):∀ (m j e:Nat) (k:Int) (z y:List Int),j+m=n→z.length=n→0 ≤ k→k+m ≤ 33554432→z.take j=y→xB (m+1+e) k j z=some (k+m,y++xT k m)
 | 0,j,e,k,z,y,hj,hz,h0,h1,ht=>by
   rw [show 0+1+e=e+1 by omega]
   simp only [xB]
   rw [if_neg (by omega)]
   have:z=y:=by rw [← ht,List.take_of_length_le (by omega)]
   simp [xT,this]
 | m+1,j,e,k,z,y,hj,hz,h0,h1,ht=>by
   rw [show m+1+1+e=(m+1+e)+1 by omega]
   simp only [xB]
   rw [if_pos (by omega),if_pos (by omega),Int.toNat_natCast,ot,if_pos (by omega)]
   simp only [Option.bind_some]
   rw [vH (by omega),vq (n:=n) (by omega) (by rw [wm]; omega)]
   rw [ip n hn m (j+1) e (k+1) (z.set j k) (y++[k]) (by omega) (by simp [hz]) (by omega) (by omega) (by
    rw [List.take_add_one,List.getElem?_set_self (by omega),List.take_set_of_le (Nat.le_refl j),ht]; rfl)]
   simp [xT]
   omega
theorem jX (l:List Int) (k:Int) (h:s9 l k):∃ N,v7 N l k=some (vZ l k):=by
 obtain ⟨h1,h2,h3⟩:=h
 refine ⟨l.length+1,?_⟩
 unfold v7 vZ
 have h1':l.length ≤ 1048576:=h1
 have:=ip l.length h1 l.length 0 0 k l [] (by omega) rfl h2 (by omega) rfl
 simpa using this
def vv (a:List Int) (k:Int):Prop:=∃ ls,a=zS ls∧(∀ l ∈ ls,l.length ≤ 1048576)∧ls.length ≤ 1048576∧0 ≤ k∧tj ls k ≤ 16777216
noncomputable def nN (a:List Int):List (List Int):= @dite _ (∃ ls,a=zS ls) (Classical.propDecidable _) (fun h=>Classical.choose h) fun _=>[]
noncomputable def xJ (a:List Int) (k:Int):Int×List Int:=(tj (nN a) k,zS (xl (nN a) k))
theorem qG (ls:List (List Int)):nN (zS ls)=ls:=by
 unfold nN
 rw [dif_pos ⟨ls,rfl⟩]
 exact (pc (Classical.choose_spec (p:=fun q=>zS ls=zS q) ⟨ls,rfl⟩)).symm
theorem l9 {a:List Int} {k:Int} (h:vv a k):∃ ls,a=zS ls∧(∀ l ∈ ls,l.length ≤ 1048576)∧ls.length ≤ 1048576∧0 ≤ k∧tj ls k ≤ 16777216∧xJ a k=(tj ls k,zS (xl ls k)):=by
 obtain ⟨ls,rfl,h1,h2,h3,h4⟩:=h
 refine ⟨ls,rfl,h1,h2,h3,h4,?_⟩
 unfold xJ
 rw [qG]
def uy (l:List Int) (k:Int):Prop:=yc l∧0 ≤ k∧k ≤ 16777216
def yW (l:List Int) (k:Int):Int:=if l=xT k l.length then k+l.length else -1
theorem ix (l:List Int) (hl:yc l):∀ (r:List Int) (j e:Nat) (k:Int),l.drop j=r→0 ≤ k→k+r.length ≤ 33554432→
  xE (r.length+1+e) l k j=some (if r=xT k r.length then k+r.length else -1)
 | [],j,e,k,hd,h0,h1=>by
   rw [show ([]:List Int).length+1+e=e+1 by simp; omega]
   simp only [xE]
   rw [if_neg (vd hd)]; simp [xT]
 | x :: r,j,e,k,hd,h0,h1=>by
   obtain ⟨g1,g2,g3,g4,g5,g6⟩:=we hd
   have hb:l.length ≤ big:=by unfold yc at hl; rw [wm]; omega
   rw [List.length_cons] at h1
   rw [show (x :: r).length+1+e=(r.length+1+e)+1 by simp; omega]
   simp only [xE]
   rw [if_pos g2,g3]
   simp only [Option.bind_some]
   by_cases c:x=k
   ·subst c
    rw [if_pos rfl,vH (by omega),vq g1 hb,ix l hl r (j+1) e (x+1) g5 (by omega) (by omega)]
    simp only [List.length_cons,xT,List.cons.injEq,true_and]
    congr 1
    split
    ·omega
    ·rfl
   ·rw [if_neg c]
    simp [xT,c]
theorem iq (l:List Int) (k:Int) (h:uy l k):∃ N,ug N l k=some (yW l k):=by
 obtain ⟨h1,h2,h3⟩:=h
 have h1':l.length ≤ 1048576:=h1
 refine ⟨l.length+1,?_⟩
 unfold ug yW
 have:=ix l h1 l 0 0 k rfl h2 (by omega)
 simpa using this
def sy (ts:List TTest) (k:Int):Prop:=od ts∧0 ≤ k∧k ≤ 1000
def mn:List (List Int)→Int→Int
 | [],k=>k
 | l :: r,k=>if l=xT k l.length then mn r (k+l.length) else -1
def ww (ts:List TTest) (k:Int):Int:=mn (zK ts) k
theorem ji (L:List Int→Int→Option Int) (hL:∀ l k,uy l k→L l k=some (yW l k)) (ts:List TTest) (hf:od ts):
  ∀ (r:List TTest) (j e:Nat) (k:Int),ts.drop j=r→0 ≤ k→k ≤ 1000+80004 * j→xu L (r.length+1+e) ts k j=some (mn (zK r) k)
 | [],j,e,k,hd,h0,hk=>by
   rw [show ([]:List TTest).length+1+e=e+1 by simp; omega]
   simp only [xu]
   rw [if_neg (vd hd)]; rfl
 | x :: r,j,e,k,hd,h0,hk=>by
   obtain ⟨g1,g2,g3,g4,g5,g6⟩:=we hd
   have hlen:=hf.1
   have hm:∀ l,l ∈ [x.In_Shape,x.In_Data,x.Want_Shape,x.Want_Data]→l.length ≤ 20001:=fun l hl=>hf.2 l (List.mem_flatMap.2 ⟨x,List.mem_of_getElem? g4,hl⟩)
   have m1:=hm x.In_Shape (by simp)
   have m2:=hm x.In_Data (by simp)
   have m3:=hm x.Want_Shape (by simp)
   have m4:=hm x.Want_Data (by simp)
   rw [show (x :: r).length+1+e=(r.length+1+e)+1 by simp; omega]
   simp only [xu]
   rw [if_pos g2,g3]
   simp only [Option.bind_some,xN,mn]
   rw [hL _ _ ⟨show x.In_Shape.length ≤ 1048576 by omega,h0,by omega⟩]
   simp only [Option.bind_some,yW]
   by_cases c1:x.In_Shape=xT k x.In_Shape.length
   ·rw [if_pos c1,if_pos c1,if_neg (by omega),hL _ _ ⟨show x.In_Data.length ≤ 1048576 by omega,by omega,by omega⟩]
    simp only [Option.bind_some,yW]
    by_cases c2:x.In_Data=xT (k+x.In_Shape.length) x.In_Data.length
    ·rw [if_pos c2,if_pos c2,if_neg (by omega),hL _ _ ⟨show x.Want_Shape.length ≤ 1048576 by omega,by omega,by omega⟩]
     simp only [Option.bind_some,yW]
     by_cases c3:x.Want_Shape=xT (k+x.In_Shape.length+x.In_Data.length) x.Want_Shape.length
     ·rw [if_pos c3,if_pos c3,if_neg (by omega),hL _ _ ⟨show x.Want_Data.length ≤ 1048576 by omega,by omega,by omega⟩]
      simp only [Option.bind_some,yW]
      by_cases c4:x.Want_Data=xT (k+x.In_Shape.length+x.In_Data.length+x.Want_Shape.length) x.Want_Data.length
      ·rw [if_pos c4,if_pos c4,if_neg (by omega),vq g1 (by rw [wm]; omega),ji L hL ts hf r (j+1) e _ g5 (by omega) (by omega)]
      ·rw [if_neg c4,if_neg c4,if_pos (by omega)]
     ·rw [if_neg c3,if_neg c3,if_pos (by omega)]
    ·rw [if_neg c2,if_neg c2,if_pos (by omega)]
   ·rw [if_neg c1,if_neg c1,if_pos (by omega)]
theorem jK (L:List Int→Int→Option Int) (hL:∀ l k,uy l k→L l k=some (yW l k)) (ts:List TTest) (k:Int) (h:sy ts k):∃ N,tr L N ts k=some (ww ts k):=
 ⟨ts.length+1,ji L hL ts h.1 ts 0 0 k rfl h.2.1 (by have:=h.2.2; omega)⟩
def vA (a:List Int) (k:Int):Prop:=∃ ts,a=zS (zK ts)∧od ts∧0 ≤ k∧k ≤ 1000
noncomputable def xI (a:List Int) (k:Int):Int×List Int:=(mn (nN a) k,a)
theorem lN {a:List Int} {k:Int} (h:vA a k):∃ ts,a=zS (zK ts)∧sy ts k∧xI a k=(ww ts k,a):=by
 obtain ⟨ts,rfl,h⟩:=h
 refine ⟨ts,rfl,h,?_⟩
 unfold xI ww
 rw [qG]
def yS (s:List UInt8):Prop:=True
def vL (s:List UInt8):Bool:=true
theorem pE (s:List UInt8):(yg s).1.length ≤ 20001∧(yg s).2.1.length ≤ 20001:=by
 have hN:∀ w:List UInt8,w.length ≤ 20000→(zB w).1.length ≤ 20001:=fun w hw=>by
  unfold zB
  split
  ·simp
  ·have:=lM (pcs 32 [] w) []
   have h2:=rO 32 w []
   simp only [List.length_nil] at this; omega
 unfold yg
 split
 ·simp
 ·rename_i c
  split
  ·rename_i a b hp
   have hlen:=rG 58 s []
   have ha:a.length ≤ 20000:=by have:=hlen a (by rw [hp]; simp); simp at this; omega
   have hb:b.length ≤ 20000:=by have:=hlen b (by rw [hp]; simp); simp at this; omega
   split
   ·exact ⟨hN a ha,hN b hb⟩
   ·simp
  ·simp
theorem Ox (x:List UInt8):(zJ x).1.length ≤ 20001∧(zJ x).2.1.length ≤ 20001∧(zJ x).2.2.1.length ≤ 20001∧(zJ x).2.2.2.1.length ≤ 20001:=by
 unfold zJ
 split
 ·exact ⟨(pE _).1,(pE _).2,(pE _).1,(pE _).2⟩
 ·simp
theorem jC:∀ (r:List (List UInt8)) (i:Nat) (acc:List TTest),od acc→od (p5 r i acc).1
 | [],_,acc,h=>h
 | x :: r,i,acc,h=>by
   have h0:od []:=⟨by simp,by simp [zK]⟩
   simp only [p5]
   split
   ·exact jC r (i+1) acc h
   ·split
    ·exact h0
    ·split
     ·exact h0
     ·rename_i c
      refine jC r (i+1) _ ⟨by have:=h.1; simp only [List.length_append,List.length_cons,List.length_nil]; omega,fun l hl=>?_⟩
      rw [me,xN] at hl
      obtain ⟨k1,k2,k3,k4⟩:=Ox x
      rcases List.mem_append.1 hl with hl | hl
      ·exact h.2 l hl
      ·simp only [zK,List.flatMap_nil,List.mem_cons,List.not_mem_nil,or_false] at hl
       rcases hl with rfl | rfl | rfl | rfl <;> assumption
theorem Uq (s:List UInt8):od (zQ s).1:=by
 unfold zQ
 split
 ·exact ⟨by simp,by simp [zK]⟩
 ·exact jC _ _ _ ⟨by simp,by simp [zK]⟩
theorem mC:∀ (n:Nat) (k:Int),(xT k n).length=n
 | 0,_=>rfl
 | n+1,k=>by simp [xT,mC n]
theorem jb:∀ (ls:List (List Int)) (k:Int),mn (xl ls k) k=tj ls k
 | [],_=>rfl
 | l :: ls,k=>by
   simp only [xl,mn,tj,oH,mC]
   rw [if_pos trivial,jb ls]
theorem jS:∀ (ts:List TTest) (k:Int),∃ us,xl (zK ts) k=zK us∧us.length=ts.length
 | [],k=>⟨[],rfl,rfl⟩
 | t :: ts,k=>by
   simp only [xN,xl]
   obtain ⟨us,h1,h2⟩:=jS ts (k+t.In_Shape.length+t.In_Data.length+t.Want_Shape.length+t.Want_Data.length)
   exact ⟨⟨_,_,_,_⟩ :: us,by rw [h1]; rfl,by simp [h2]⟩
theorem fx:∀ (ls:List (List Int)) (k:Int) (n:Nat),(∀ l ∈ ls,l.length ≤ n)→∀ l ∈ xl ls k,l.length ≤ n
 | [],_,_,_,l,hl=>by simp [xl] at hl
 | x :: ls,k,n,h,l,hl=>by
   simp only [xl] at hl
   rcases List.mem_cons.1 hl with rfl | hl
   ·rw [oH,mC]; exact h x (by simp)
   ·exact fx ls _ n (fun y hy=>h y (by simp [hy])) l hl
theorem bp:∀ (ls:List (List Int)) (k:Int) (n:Nat),(∀ l ∈ ls,l.length ≤ n)→k ≤ tj ls k∧tj ls k ≤ k+(n:Int) * ls.length
 | [],k,n,_=>by simp [tj]
 | x :: ls,k,n,h=>by
   simp only [tj,List.length_cons]
   have h1:=bp ls (k+x.length) n fun y hy=>h y (by simp [hy])
   have h2:=h x (by simp)
   have e:(n:Int) * ((ls.length+1:Nat):Int)=(n:Int) * ls.length+n:=by rw [Int.natCast_add,Int.mul_add]; simp
   rw [e]
   omega
theorem oA (L1:List UInt8→Option (List TTest×Int×Int)) (h1:∀ s,sc s→L1 s=some (zQ s)) (L2:List UInt8→Option (List Int×Int×Int)) (h2:∀ s,qp s→L2 s=some (uu s))
  (L3:List Int→List TTest→Option (Bool×List Int)) (h3:∀ a b,sO a b→L3 a b=some (wq a b)) (L4:List Int→Int→Option (Int×List Int)) (h4:∀ a k,vv a k→L4 a k=some (xJ a k))
  (L5:List Int→Int→Option (Int×List Int)) (h5:∀ a k,vA a k→L5 a k=some (xI a k)) (s:List UInt8) (h:yS s):∃ N,yZ L1 L2 L3 L4 L5 N s=some (vL s):=by
 refine ⟨0,?_⟩
 unfold yZ vL
 by_cases c:1048576 < (s.length:Int)
 ·rw [if_pos c]
 rw [if_neg c,h1 _ (show s.length ≤ 1048576 by omega),h2 _ (show s.length ≤ 1048576 by omega),kP]
 have hf:=Uq s
 generalize zQ s=T at hf
 obtain ⟨ts,cd,ln⟩:=T
 simp only at hf
 simp only [Option.bind_some]
 have heq:wq (zS (zK ts)) ts=(true,zS (zK ts)):=by unfold wq; simp
 have hend:=bp (zK ts) 1 20001 hf.2
 have hrl:=rT ts
 have hn:=hf.1
 have hmul:((20001:Nat):Int) * ((zK ts).length:Int) ≤ 20001 * 80:=by rw [hrl]; omega
 have hpm:vv (zS (zK ts)) 1:=⟨_,rfl,fun l hl=>by have:=hf.2 l hl; omega,by omega,by omega,by omega⟩
 have hm:xJ (zS (zK ts)) 1=(tj (zK ts) 1,zS (xl (zK ts) 1)):=by unfold xJ; rw [qG]
 obtain ⟨us,hus,hul⟩:=jS ts 1
 have hph:vA (zS (xl (zK ts) 1)) 1:=⟨us,by rw [hus],⟨by omega,fun l hl=>fx (zK ts) 1 20001 hf.2 l (by rw [hus]; exact hl)⟩,by omega,by omega⟩
 have hh:xI (zS (xl (zK ts) 1)) 1=(tj (zK ts) 1,zS (xl (zK ts) 1)):=by unfold xI; rw [qG,jb]
 rw [h3 _ _ ⟨ts,rfl,hf⟩,heq]
 simp only [Option.bind_some]
 rw [if_neg (by simp),if_pos trivial,if_pos trivial,h4 _ _ hpm,hm]
 simp only [Option.bind_some]
 rw [h5 _ _ hph,hh]
 simp only [Option.bind_some]
 rw [if_neg (by omega),if_pos trivial,if_neg (by simp),if_pos trivial,if_pos trivial,h5 _ _ hph,hh]
 simp only [Option.bind_some]
 rw [if_neg (by omega),if_pos trivial]
theorem ql {s:List UInt8} (h:s.length ≤ maxLen):yS s:=trivial
theorem j0:∀ ts:List TTest,zf cTest ts=(zK ts).map fun l=>zb cI l
 | []=>rfl
 | t :: ts=>by
   rw [show zf cTest (t :: ts)=zb cI t.In_Shape :: zb cI t.In_Data :: zb cI t.Want_Shape :: zb cI t.Want_Data :: zf cTest ts from rfl,j0 ts]; rfl
theorem eD (ts:List TTest):zb cTest ts= .lst ts.length ((zK ts).map fun l=>zb cI l):=by
 rw [show zb cTest ts= .lst ts.length (zf cTest ts) from rfl,j0]
end Go.Vm
