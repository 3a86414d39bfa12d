/- What the functions under laws_FnExactMonad answer. -/
import Derived.Test.YtpjfklhaogdfeaaPBase
import Derived.Test.YtpjfklhaogdfeaaFMo
import Derived.Lib.CountLaws
import Derived.Test.YtpjfklhaogdfeaaVmLayer
import Derived.Test.YtpjfklhaogdfeaaGrPlain
set_option linter.all false
set_option maxRecDepth 100000
namespace Go.Vm
def nB (l:List Int) (left:Int):Prop:=l.length ≤ big∧0 ≤ left∧left ≤ 1048576
def u3 (l:List Int) (left:Int):Int:=if left < l.length then -1 else left - l.length
theorem Ze (l:List Int) (left:Int) (h:nB l left):∃ N,qk N l left=some (u3 l left):=by
 obtain ⟨h1,h2,h3⟩:=h
 rw [wc] at h1
 refine ⟨0,?_⟩
 unfold qk u3
 rw [yv (by omega)]
 split <;> split <;> first | rfl | omega
def nk (s d:List Int) (left:Int):Prop:=s.length ≤ big∧d.length ≤ big∧0 ≤ left∧left ≤ 1048576
def wb (s d:List Int) (left:Int):Int:=if left < s.length then -1 else if left - s.length < d.length then -1 else left - s.length - d.length
theorem aB (L:List Int→Int→Option Int) (hL:∀ l n,nB l n→L l n=some (u3 l n)) (s d:List Int) (left:Int) (h:nk s d left):
  ∃ N,rk L N s d left=some (wb s d left):=by
 obtain ⟨h1,h2,h3,h4⟩:=h
 refine ⟨0,?_⟩
 unfold rk wb
 rw [hL _ _ ⟨h1,h3,h4⟩]
 simp only [Option.bind_some,u3]
 by_cases c1:left < s.length
 ·rw [if_pos c1,if_pos (by omega),if_pos c1]
 ·rw [if_neg c1,if_neg (by omega),if_neg c1,hL _ _ ⟨h2,by omega,by omega⟩]
  simp only [Option.bind_some,u3]
  by_cases c2:left - s.length < d.length
  ·rw [if_pos c2,if_pos (by omega)]
  ·rw [if_neg c2,if_neg (by omega)]
def small (l:List Int):Prop:=l.length ≤ 1048576
def nN (l:List Int):Prop:=small l
def oP (l:List Int):List Int:=l
theorem Yz (l:List Int) (hl:small l):∀ (r:List Int) (j e:Nat) (z:List Int),l.drop j=r→z.length=l.length→z.take j=l.take j→vD (r.length+1+e) l j z=some l
 | [],j,e,z,hd,hz,ht=>by
   have h:=pI hd
   have hj:l.length ≤ j:=by omega
   rw [show ([]:List Int).length+1+e=e+1 by simp; omega]
   simp only [vD]
   rw [if_neg h,← List.take_of_length_le (show z.length ≤ j by omega),ht,List.take_of_length_le hj]
 | x :: r,j,e,z,hd,hz,ht=>by
   obtain ⟨h1,h2,h3,h4,h5,h6⟩:=u4 hd
   have hb:l.length ≤ big:=by unfold small at hl; rw [wc]; omega
   rw [show (x :: r).length+1+e=(r.length+1+e)+1 by simp; omega]
   simp only [vD]
   rw [if_pos h2,h3]
   simp only [Option.bind_some]
   rw [if_pos (by omega),Int.toNat_natCast,uM,if_pos (by omega)]
   simp only [Option.bind_some]
   rw [wT h1 hb]
   refine Yz l hl r (j+1) e (z.set j x) h5 (by simp [hz]) ?_
   rw [List.take_add_one,List.take_add_one,List.getElem?_set_self (by omega),h4,List.take_set_of_le (Nat.le_refl j),ht]
theorem ZF (l:List Int) (h:nN l):∃ N,rX N l=some (oP l):=by
 refine ⟨l.length+1,?_⟩
 unfold rX oP
 have h':l.length ≤ 1048576:=h
 rw [if_pos (by unfold mN uQ; omega)]
 exact Yz l h l 0 0 _ rfl (by simp) rfl
def ni (s d:List Int):Prop:=small s∧small d
def pS (s d:List Int):List Int×List Int:=(s,d)
theorem al (L:List Int→Option (List Int)) (hL:∀ l,nN l→L l=some (oP l)) (s d:List Int) (h:ni s d):
  ∃ N,se L N s d=some (pS s d):=by
 refine ⟨0,?_⟩
 unfold se
 rw [hL _ h.1,hL _ h.2]; rfl
def vP (l:List Int):Prop:=small l
def vJ (p x:Int):Int:=if 1000 < w64 (p * x) then 1001 else w64 (p * x)
def xT (l:List Int):Int:=l.foldl vJ 1
theorem gZ (l:List Int) (hl:small l):∀ (r:List Int) (j e:Nat) (p:Int),l.drop j=r→xJ (r.length+1+e) l p j=some (r.foldl vJ p)
 | [],j,e,p,hd=>by
   rw [show ([]:List Int).length+1+e=e+1 by simp; omega]
   simp only [xJ]
   rw [if_neg (pI hd)]; rfl
 | x :: r,j,e,p,hd=>by
   obtain ⟨h1,h2,h3,h4,h5,h6⟩:=u4 hd
   have hb:l.length ≤ big:=by unfold small at hl; rw [wc]; omega
   rw [show (x :: r).length+1+e=(r.length+1+e)+1 by simp; omega]
   simp only [xJ]
   rw [if_pos h2,h3]
   simp only [Option.bind_some,List.foldl_cons,wT h1 hb]
   unfold vJ
   by_cases c:1000 < w64 (p * x)
   ·rw [if_pos c,if_pos c,gZ l hl r (j+1) e _ h5]; rfl
   ·rw [if_neg c,if_neg c,gZ l hl r (j+1) e _ h5]; rfl
theorem dh (l:List Int) (h:vP l):∃ N,rH N l=some (xT l):=
 ⟨l.length+1,gZ l h l 0 0 1 rfl⟩
def nK (l:List Int):Prop:=small l
def tO (x:Int):Bool:=decide (0 ≤ x)&&decide (x ≤ 1000)
def uk (l:List Int):Bool:=decide (l.length ≤ 3)&&l.all tO&&decide (l.foldl vJ 1 ≤ 1000)
def qI (l:List Int):Bool:=uk l
theorem TR (L:List Int→Option Int) (l:List Int) (hl:small l) (q:Int) (hq:L l=some q):∀ (r:List Int) (j e:Nat),l.drop j=r→
  vF L (r.length+1+e) l j=some (r.all tO&&decide (q ≤ 1000))
 | [],j,e,hd=>by
   rw [show ([]:List Int).length+1+e=e+1 by simp; omega]
   simp only [vF]
   rw [if_neg (pI hd),hq]; rfl
 | x :: r,j,e,hd=>by
   obtain ⟨h1,h2,h3,h4,h5,h6⟩:=u4 hd
   have hb:l.length ≤ big:=by unfold small at hl; rw [wc]; omega
   rw [show (x :: r).length+1+e=(r.length+1+e)+1 by simp; omega]
   simp only [vF]
   rw [if_pos h2,h3]
   simp only [Option.bind_some,wT h1 hb,List.all_cons,tO]
   by_cases c1:x < 0
   ·rw [if_pos c1]; simp; omega
   ·rw [if_neg c1]
    by_cases c2:1000 < x
    ·rw [if_pos c2]; simp; omega
    ·rw [if_neg c2,TR L l hl q hq r (j+1) e h5]
     have e1:decide (0 ≤ x)=true:=by simp; omega
     have e2:decide (x ≤ 1000)=true:=by simp; omega
     rw [e1,e2]; simp
theorem ZE (L:List Int→Option Int) (hL:∀ l,vP l→L l=some (xT l)) (l:List Int) (h:nK l):∃ N,qc L N l=some (qI l):=by
 refine ⟨l.length+1,?_⟩
 unfold qc qI uk
 by_cases c:(3:Int) < l.length
 ·have:¬ l.length ≤ 3:=by omega
  rw [if_pos c]; simp [this]
 ·have:l.length ≤ 3:=by omega
  rw [if_neg c]
  have q:=TR L l h _ (hL l h) l 0 0 rfl
  rw [show l.length+1+0=l.length+1 by rfl] at q
  rw [show ((0:Nat):Int)=0 by rfl] at q
  rw [q]; simp only [this,xT,decide_true,Bool.true_and]; rfl
def o9 (s d:List Int):Prop:=small s∧small d
def lK (x:Int):Bool:=decide (-3000000000 ≤ x)&&decide (x ≤ 3000000000)
def ww (s d:List Int):Bool:=uk s&&decide ((d.length:Int)=s.foldl vJ 1)&&d.all lK
def t7 (s d:List Int):Bool:=ww s d
theorem iv (L1:List Int→Option Bool) (L2:List Int→Option Int) (s l:List Int) (hl:small l):∀ (r:List Int) (j e:Nat),l.drop j=r→
  wX L1 L2 (r.length+1+e) j s l=some (r.all lK)
 | [],j,e,hd=>by
   rw [show ([]:List Int).length+1+e=e+1 by simp; omega]
   simp only [wX]
   rw [if_neg (pI hd)]; rfl
 | x :: r,j,e,hd=>by
   obtain ⟨h1,h2,h3,h4,h5,h6⟩:=u4 hd
   have hb:l.length ≤ big:=by unfold small at hl; rw [wc]; omega
   rw [show (x :: r).length+1+e=(r.length+1+e)+1 by simp; omega]
   simp only [wX]
   rw [if_pos h2,h3]
   simp only [Option.bind_some,wT h1 hb,List.all_cons,lK]
   by_cases c1:x < -3000000000
   ·rw [if_pos c1]; simp; omega
   ·rw [if_neg c1]
    by_cases c2:3000000000 < x
    ·rw [if_pos c2]; simp; omega
    ·rw [if_neg c2,iv L1 L2 s l hl r (j+1) e h5]
     have e1:decide (-3000000000 ≤ x)=true:=by simp; omega
     have e2:decide (x ≤ 3000000000)=true:=by simp; omega
     rw [e1,e2]; simp
theorem ae (L1:List Int→Option Bool) (h1:∀ l,nK l→L1 l=some (qI l)) (L2:List Int→Option Int) (h2:∀ l,vP l→L2 l=some (xT l))
  (s d:List Int) (h:o9 s d):∃ N,sh L1 L2 N s d=some (t7 s d):=by
 refine ⟨d.length+1,?_⟩
 unfold sh t7 ww
 rw [h1 _ h.1,h2 _ h.1]
 simp only [Option.bind_some,qI,xT]
 have q:=iv L1 L2 s d h.2 d 0 0 rfl
 rw [show d.length+1+0=d.length+1 by rfl,show ((0:Nat):Int)=0 by rfl] at q
 rw [q]
 cases uk s
 ·simp
 ·by_cases c:(d.length:Int)=s.foldl vJ 1 <;> simp [c]
def xM (l:List Int):Prop:=small l
def xj (l:List Int):List Int:=l
theorem vL {l:List Int} (h:small l):v7 8 l.length:=by
 have h':l.length ≤ 1048576:=h
 unfold v7 uQ; omega
theorem Zq (l:List Int) (h:xM l):∃ N,qu N l=some (xj l):=by
 refine ⟨0,?_⟩
 unfold qu xj
 rw [if_pos (vL h)]
def wg (l:List Int):Prop:=small l
def xK (l:List Int):List Int×List Int:=([(l.length:Int)],l)
theorem dP (L:List Int→Option (List Int)) (hL:∀ l,xM l→L l=some (xj l)) (l:List Int) (h:wg l):∃ N,tf L N l=some (xK l):=by
 refine ⟨0,?_⟩
 unfold tf
 rw [hL _ h]; rfl
def nU (s d:List Int):Prop:=ww s d=true
def tri:Except Int (List Int×List Int)→List Int×List Int×Int
 | .ok p=>(p.1,p.2,0)
 | .error c=>([],[],c)
def oI:Nat→List Int
 | 0=>[]
 | n+1=>oI n++[(n:Int)]
def kJ (s d:List Int):Except Int (List Int×List Int):=
 if s.length=0 then (if d.headD 0 < 0 then .error 1 else if 1000 < d.headD 0 then .error 6 else .ok ([d.headD 0],oI (d.headD 0).toNat)) else .error 2
def oH (s d:List Int):List Int×List Int×Int:=tri (kJ s d)
def cu (x:Int):Prop:=-3000000000 ≤ x∧x ≤ 3000000000
theorem Ri {l:List Int} (h:l.all lK=true):∀ x ∈ l,cu x:=by
 intro x hx
 have:=List.all_eq_true.1 h x hx
 simpa [lK,cu] using this
theorem vN {s d:List Int} (h:ww s d=true):(∀ x ∈ d,cu x)∧uk s=true∧(d.length:Int)=s.foldl vJ 1:=by
 unfold ww at h
 simp only [Bool.and_eq_true,decide_eq_true_eq] at h
 exact ⟨Ri h.2,h.1.1,h.1.2⟩
theorem d9 {l:List Int} (h:uk l=true):0 ≤ l.foldl vJ 1∧l.foldl vJ 1 ≤ 1000:=by
 unfold uk at h
 simp only [Bool.and_eq_true,decide_eq_true_eq] at h
 refine ⟨?_,h.2⟩
 have key:∀ (l:List Int) (p:Int),0 ≤ p→p ≤ 1001→l.all tO=true→0 ≤ l.foldl vJ p:=by
  intro l
  induction l with
  | nil=>intro p h _ _; exact h
  | cons x l ih=>
    intro p h0 h1 ha
    simp only [List.all_cons,Bool.and_eq_true,tO,decide_eq_true_eq] at ha
    obtain ⟨⟨x0,x1⟩,ha⟩:=ha
    have hp0:0 ≤ p * x:=Int.mul_nonneg h0 x0
    have hp1:p * x ≤ 1001 * 1000:=Int.mul_le_mul h1 x1 x0 (by omega)
    rw [List.foldl_cons]
    refine ih _ ?_ ?_ ha
    ·unfold vJ; rw [yv (by omega)]; split <;> omega
    ·unfold vJ; rw [yv (by omega)]; split <;> omega
 exact key l 1 (by omega) (by omega) h.1.2
theorem yR {s d:List Int} (h:ww s d=true):small s∧small d∧s.length ≤ 3∧d.length ≤ 1000∧(d.length:Int)=s.foldl vJ 1:=by
 obtain ⟨h1,h2,h3⟩:=vN h
 have h4:=d9 h2
 have h5:s.length ≤ 3:=by
  unfold uk at h2
  simp only [Bool.and_eq_true,decide_eq_true_eq] at h2
  exact h2.1.1
 unfold small
 omega
theorem Yj {s d:List Int} (h:ww s d=true) (h0:s.length=0):∃ x,d=[x]∧cu x:=by
 obtain ⟨h1,h2,h3,h4,h5⟩:=yR h
 have:s=[]:=List.eq_nil_of_length_eq_zero h0
 subst this
 simp only [List.foldl_nil] at h5
 cases d with
 | nil=>simp at h5
 | cons x d=>
   simp only [List.length_cons] at h5
   have:d=[]:=List.eq_nil_of_length_eq_zero (by omega)
   subst this
   exact ⟨x,rfl,(vN h).1 x (by simp)⟩
theorem aZ {s:List Int} (c:s.length=0) (x:Int):kJ s [x]=if x < 0 then .error 1 else if 1000 < x then .error 6 else .ok ([x],oI x.toNat):=by
 unfold kJ; rw [if_pos c]; rfl
theorem Xb {s:List Int} (c:¬ s.length=0) (d:List Int):kJ s d= .error 2:=by unfold kJ; rw [if_neg c]
theorem vT:∀ n,(oI n).length=n
 | 0=>rfl
 | n+1=>by simp [oI,vT n]
theorem WO (L:List Int→Option (List Int×List Int)) (hL:∀ l,wg l→L l=some (xK l)) (s:List Int) (n:Nat) (hn:n ≤ 1000):∀ (m j e:Nat),j+m=n→
  vt L (m+1+e) j s [(n:Int)] (oI j)=some ([(n:Int)],oI n,0)
 | 0,j,e,hj=>by
   rw [nL]
   simp only [vt]
   obtain rfl:j=n:=by omega
   rw [show idx [(j:Int)] 0=some (j:Int) from rfl,Option.bind_some,if_neg (by omega),hL _ (by show small _; unfold small; rw [vT]; omega)]
   simp only [Option.bind_some,xK,vT]
 | m+1,j,e,hj=>by
   rw [yV]
   simp only [vt]
   rw [show idx [(n:Int)] 0=some (n:Int) from rfl,Option.bind_some,if_pos (by omega),if_pos (vL (by unfold small; simp only [List.length_append,vT,List.length_singleton]; omega)),
    wT (show j < n by omega) (by rw [wc]; omega)]
   exact WO L hL s n hn m (j+1) e (by omega)
theorem Zn (L:List Int→Option (List Int×List Int)) (hL:∀ l,wg l→L l=some (xK l)) (s d:List Int) (h:nU s d):∃ N,r9 L N s d=some (oH s d):=by
 refine ⟨1001,?_⟩
 unfold r9 oH
 by_cases c:s.length=0
 ·obtain ⟨x,rfl,hx⟩:=Yj h c
  rw [if_pos (by omega),aZ c,show idx [x] 0=some x from rfl]
  simp only [Option.bind_some]
  by_cases c1:x < 0
  ·rw [if_pos c1,if_pos c1]; rfl
  ·rw [if_neg c1,if_neg c1]
   by_cases c2:1000 < x
   ·rw [if_pos c2,if_pos c2]; rfl
   ·rw [if_neg c2,if_neg c2]
    obtain ⟨n,rfl⟩:=Int.eq_ofNat_of_zero_le (by omega:0 ≤ x)
    have:=WO L hL s n (by omega) n 0 (1000 - n) (by omega)
    rw [show n+1+(1000 - n)=1001 by omega] at this
    exact this
 ·rw [if_neg (by omega),Xb c]; rfl
def xO:List Int→Int
 | []=>1
 | x :: l=>x * xO l
def pT (s d:List Int) (i:Int):Prop:=small d∧∃ n t,s=n :: t∧uk t=true∧0 ≤ i∧(i.toNat+1) * (xO t).toNat ≤ d.length
def jh (d:List Int) (w i:Nat):List Int:=(d.drop (i * w)).take w
def sQ (s d:List Int) (i:Int):List Int×List Int:=(s.tail,jh d (xO s.tail).toNat i.toNat)
theorem lT:∀ {l:List Int},l.all tO=true→0 ≤ xO l
 | [],_=>by simp [xO]
 | x :: l,h=>by
   simp only [List.all_cons,Bool.and_eq_true,tO,decide_eq_true_eq] at h
   exact Int.mul_nonneg h.1.1 (lT h.2)
def oQ (p x:Int):Int:=w64 (p * x)
def Ux (p q:Int):Prop:=(p ≤ 1000→q=p)∧(1000 < p→q=1001)
theorem YI:∀ (l:List Int) (p q B:Int),0 ≤ p→p ≤ B→B * 1000 ^ l.length ≤ 1000000000→l.all tO=true→Ux p q→Ux (l.foldl oQ p) (l.foldl vJ q)
 | [],p,q,B,h0,hB,hm,ha,hc=>hc
 | x :: l,p,q,B,h0,hB,hm,ha,hc=>by
   simp only [List.all_cons,Bool.and_eq_true,tO,decide_eq_true_eq] at ha
   obtain ⟨⟨x0,x1⟩,ha⟩:=ha
   have hB0:0 ≤ B:=Int.le_trans h0 hB
   have hp1:p * x ≤ B * 1000:=Int.mul_le_mul hB x1 x0 hB0
   have hp0:0 ≤ p * x:=Int.mul_nonneg h0 x0
   have hm':(B * 1000) * 1000 ^ l.length ≤ 1000000000:=by
    rw [List.length_cons,Int.pow_succ,Int.mul_comm (1000 ^ l.length) 1000,← Int.mul_assoc] at hm
    exact hm
   have hpow:(1:Int) ≤ 1000 ^ l.length:=Int.pow_pos (by omega)
   have hBs:B * 1000 ≤ 1000000000:=by
    have:=Int.mul_le_mul_of_nonneg_left hpow (show 0 ≤ B * 1000 by omega)
    omega
   simp only [List.foldl_cons]
   have e1:oQ p x=p * x:=by unfold oQ; exact yv (by omega)
   rw [e1]
   refine YI l (p * x) _ (B * 1000) hp0 hp1 hm' ha ?_
   by_cases c:p ≤ 1000
   ·rw [hc.1 c]
    unfold vJ
    rw [yv (by omega)]
    constructor
    ·intro h; rw [if_neg (by omega)]
    ·intro h; rw [if_pos h]
   ·rw [hc.2 (by omega)]
    unfold vJ
    rw [yv (by omega)]
    by_cases cx:x=0
    ·subst cx
     simp only [Int.mul_zero]
     exact ⟨fun _=>by simp,fun h=>by omega⟩
    ·have hx1:1 ≤ x:=by omega
     have hge:p * 1 ≤ p * x:=Int.mul_le_mul_of_nonneg_left hx1 h0
     constructor
     ·intro h; omega
     ·intro h; rw [if_pos (by omega)]
theorem fi (l:List Int) (hl:l.length ≤ 3) (ha:l.all tO=true):Ux (l.foldl oQ 1) (l.foldl vJ 1):=by
 refine YI l 1 1 1 (by omega) (by omega) ?_ ha ⟨fun _=>rfl,fun h=>by omega⟩
 rw [Int.one_mul]
 have:l.length=0 ∨ l.length=1 ∨ l.length=2 ∨ l.length=3:=by omega
 rcases this with h | h | h | h <;> rw [h] <;> decide
theorem Uu:∀ (l:List Int) (p B:Int),0 ≤ p→p ≤ B→B * 1000 ^ l.length ≤ 1000000000→l.all tO=true→l.foldl oQ p=p * xO l
 | [],p,B,h0,hB,hm,ha=>by simp [xO]
 | x :: l,p,B,h0,hB,hm,ha=>by
   simp only [List.all_cons,Bool.and_eq_true,tO,decide_eq_true_eq] at ha
   obtain ⟨⟨x0,x1⟩,ha⟩:=ha
   have hB0:0 ≤ B:=Int.le_trans h0 hB
   have hp1:p * x ≤ B * 1000:=Int.mul_le_mul hB x1 x0 hB0
   have hp0:0 ≤ p * x:=Int.mul_nonneg h0 x0
   have hm':(B * 1000) * 1000 ^ l.length ≤ 1000000000:=by
    rw [List.length_cons,Int.pow_succ,Int.mul_comm (1000 ^ l.length) 1000,← Int.mul_assoc] at hm
    exact hm
   have hpow:(1:Int) ≤ 1000 ^ l.length:=Int.pow_pos (by omega)
   have hBs:B * 1000 ≤ 1000000000:=by
    have:=Int.mul_le_mul_of_nonneg_left hpow (show 0 ≤ B * 1000 by omega)
    omega
   simp only [List.foldl_cons]
   have e1:oQ p x=p * x:=by unfold oQ; exact yv (by omega)
   rw [e1,Uu l (p * x) (B * 1000) hp0 hp1 hm' ha,xO,Int.mul_assoc]
theorem rt (l:List Int):uk l=true ↔ l.length ≤ 3∧l.all tO=true∧xO l ≤ 1000:=by
 unfold uk
 simp only [Bool.and_eq_true,decide_eq_true_eq,and_assoc]
 refine and_congr_right fun hl=>and_congr_right fun ha=>?_
 have e:l.foldl oQ 1=xO l:=by
  rw [Uu l 1 1 (by omega) (by omega) ?_ ha,Int.one_mul]
  rw [Int.one_mul]
  have:l.length=0 ∨ l.length=1 ∨ l.length=2 ∨ l.length=3:=by omega
  rcases this with h | h | h | h <;> rw [h] <;> decide
 have hc:=fi l hl ha
 rw [e] at hc
 constructor
 ·intro h
  apply Classical.byContradiction
  intro hn
  have:=hc.2 (by omega)
  omega
 ·intro h; rw [hc.1 h]; exact h
theorem gP {l:List Int} (h:uk l=true):l.foldl vJ 1=xO l:=by
 obtain ⟨hl,ha,hp⟩:=(rt l).1 h
 have e:l.foldl oQ 1=xO l:=by
  rw [Uu l 1 1 (by omega) (by omega) ?_ ha,Int.one_mul]
  rw [Int.one_mul]
  have:l.length=0 ∨ l.length=1 ∨ l.length=2 ∨ l.length=3:=by omega
  rcases this with h | h | h | h <;> rw [h] <;> decide
 have hc:=fi l hl ha
 rw [e] at hc
 exact hc.1 hp
theorem p6 {d:List Int} {w i:Nat} (h:(i+1) * w ≤ d.length):(jh d w i).length=w:=by
 unfold jh
 rw [Nat.add_mul,Nat.one_mul] at h
 simp only [List.length_take,List.length_drop]
 omega
theorem Mq (n:Int) (t:List Int):cut (n :: t) 1 ((n :: t).length:Int)=some t:=by
 unfold cut
 rw [if_pos (by simp only [List.length_cons]; omega)]
 simp
theorem Wo {d:List Int} (hd:small d) {w i:Nat} (h:(i+1) * w ≤ d.length):cut d ((i:Int) * w) ((i:Int) * w+w)=some (jh d w i):=by
 unfold cut jh
 have e:(i:Int) * w=((i * w:Nat):Int):=by simp
 rw [Nat.add_mul,Nat.one_mul] at h
 rw [e,if_pos (by omega),Int.toNat_natCast,show (((i * w:Nat):Int)+w - ((i * w:Nat):Int)).toNat=w by omega]
theorem Y2 (L1:List Int→Option (List Int)) (h1:∀ l,xM l→L1 l=some (xj l)) (L2:List Int→Option Int) (h2:∀ l,vP l→L2 l=some (xT l))
  (s d:List Int) (i:Int) (h:pT s d i):∃ N,pz L1 L2 N s d i=some (sQ s d i):=by
 obtain ⟨hd,n,t,rfl,ht,hi,hl⟩:=h
 obtain ⟨i,rfl⟩:=Int.eq_ofNat_of_zero_le hi
 obtain ⟨w1,w2,w3⟩:=(rt t).1 ht
 obtain ⟨w,hw⟩:=Int.eq_ofNat_of_zero_le (lT w2)
 have hts:small t:=by unfold small; omega
 have hds:d.length ≤ 1048576:=hd
 refine ⟨0,?_⟩
 unfold pz sQ
 simp only [List.tail_cons]
 rw [Mq]
 simp only [Option.bind_some]
 rw [h1 _ hts]
 simp only [Option.bind_some,xj]
 rw [h2 _ hts]
 simp only [Option.bind_some,xT,gP ht]
 rw [hw] at hl ⊢
 simp only [Int.toNat_natCast,Int.ofNat_eq_natCast] at hl ⊢
 have hl':=hl
 rw [Nat.add_mul,Nat.one_mul] at hl'
 have e:(i:Int) * w=((i * w:Nat):Int):=by simp
 rw [yv (n:=(i:Int) * w) (by omega),yv (by omega),Wo hd hl]
 simp only [Option.bind_some]
 rw [h1 _ (by show small _; unfold small; rw [p6 hl]; omega)]
 rfl
def nX (s d:List Int):Prop:=ww s d=true
def lU (d:List Int) (w:Nat):Nat→List Int
 | 0=>[]
 | n+1=>jh d w n++lU d w n
def ay (s d:List Int):List Int×List Int:=match s with
 | []=>([],d)
 | n :: t=>(n :: t,lU d (xO t).toNat n.toNat)
def nF (s d:List Int):List Int×List Int:=ay s d
theorem aL {n:Int} {t:List Int} (h:uk (n :: t)=true):0 ≤ n∧n ≤ 1000∧0 ≤ xO t∧n * xO t ≤ 1000∧t.length ≤ 2:=by
 obtain ⟨hl,ha,hp⟩:=(rt _).1 h
 simp only [List.all_cons,Bool.and_eq_true,tO,decide_eq_true_eq] at ha
 simp only [List.length_cons] at hl
 exact ⟨ha.1.1,ha.1.2,lT ha.2,hp,by omega⟩
theorem Rm {n:Int} {t:List Int} (h:uk (n :: t)=true) (hn:1 ≤ n):uk t=true:=by
 obtain ⟨h1,h2,h3,h4,h5⟩:=aL h
 obtain ⟨hl,ha,hp⟩:=(rt _).1 h
 simp only [List.all_cons,Bool.and_eq_true] at ha
 refine (rt t).2 ⟨by omega,ha.2,?_⟩
 have:=Int.mul_le_mul_of_nonneg_right hn h3
 omega
theorem Sc (L1:List Int→Option (List Int)) (h1:∀ l,xM l→L1 l=some (xj l)) (L2:List Int→List Int→Int→Option (List Int×List Int)) (h2:∀ s d i,pT s d i→L2 s d i=some (sQ s d i))
  (n:Int) (t d:List Int) (ha:ww (n :: t) d=true) (w:Nat) (hw:xO t=(w:Int)) (hl:(d.length:Int)=n * w) (hn:n ≤ 1000):∀ (m e:Nat) (acc:List Int),(m:Int) ≤ n→acc.length+m * w ≤ 1000→
  v8 L1 L2 (m+1+e) ((m:Int) - 1) (n :: t) d acc=some (n :: t,acc++lU d w m)
 | 0,e,acc,hm,hs=>by
   rw [nL]
   simp only [v8]
   rw [if_neg (by omega),h1 _ (yR ha).1]
   simp [xj,lU]
 | m+1,e,acc,hm,hs=>by
   rw [yV]
   simp only [v8]
   have hf:=Rm (vN ha).2.1 (by omega)
   have hrow:(m+1) * w ≤ d.length:=by
    have q:((m+1:Nat):Int) * w ≤ n * w:=Int.mul_le_mul_of_nonneg_right hm (by omega)
    have e1:(((m+1) * w:Nat):Int)=((m+1:Nat):Int) * w:=by simp
    omega
   rw [show (((m+1:Nat):Int) - 1)=(m:Int) by omega,if_pos (by omega),h2 _ _ _ ⟨(yR ha).2.1,n,t,rfl,hf,by omega,by rw [hw,Int.toNat_natCast,Int.toNat_natCast]; exact hrow⟩]
   simp only [Option.bind_some,sQ,List.tail_cons,hw,Int.toNat_natCast]
   have hs':=hs
   rw [Nat.add_mul,Nat.one_mul] at hs'
   rw [if_pos (vL (by unfold small; rw [List.length_append,p6 hrow]; omega)),yv (by omega),Sc L1 h1 L2 h2 n t d ha w hw hl hn m e _ (by omega) (by rw [List.length_append,p6 hrow]; omega)]
   simp [lU]
theorem Wx {s d:List Int} (h:ww s d=true):(d.length:Int)=xO s:=by
 obtain ⟨h1,h2,h3⟩:=vN h
 rw [h3,gP h2]
theorem Xi {n:Int} {t d:List Int} (h:ww (n :: t) d=true):∃ w:Nat,xO t=(w:Int)∧(d.length:Int)=n * w∧small d∧0 ≤ n∧n ≤ 1000∧t.length ≤ 2∧n * w ≤ 1000:=by
 obtain ⟨b1,b2,b3,b4,b5⟩:=aL (vN h).2.1
 obtain ⟨w,hw⟩:=Int.eq_ofNat_of_zero_le b3
 have hl:=Wx h
 rw [xO,hw] at hl
 exact ⟨w,hw,hl,(yR h).2.1,b1,b2,b5,by rw [← hl]; have:=(yR h).2.2.2.1; omega⟩
theorem dz {n:Int} {t d:List Int} (h:ww (n :: t) d=true):∃ w:Nat,xO t=(w:Int)∧(d.length:Int)=n * w∧0 ≤ n∧n ≤ 1000∧n.toNat * w ≤ 1000∧n.toNat * w ≤ d.length:=by
 obtain ⟨w,hw,hl,hd,n0,n1,ht,hn⟩:=Xi h
 obtain ⟨k,rfl⟩:=Int.eq_ofNat_of_zero_le n0
 have e1:((k * w:Nat):Int)=(k:Int) * w:=by simp
 exact ⟨w,hw,hl,n0,n1,by rw [Int.toNat_natCast]; omega,by rw [Int.toNat_natCast]; omega⟩
theorem Yn (L1:List Int→Option (List Int)) (h1:∀ l,xM l→L1 l=some (xj l)) (L2:List Int→List Int→Int→Option (List Int×List Int)) (h2:∀ s d i,pT s d i→L2 s d i=some (sQ s d i))
  (s d:List Int) (h:nX s d):∃ N,pn L1 L2 N s d=some (nF s d):=by
 refine ⟨1001,?_⟩
 unfold pn nF ay
 cases s with
 | nil=>rw [if_pos (by simp),h1 _ (yR h).2.1]; rfl
 | cons n t=>
   obtain ⟨w,hw,hl,n0,n1,hs,_⟩:=dz h
   obtain ⟨k,rfl⟩:=Int.eq_ofNat_of_zero_le n0
   rw [if_neg (by simp only [List.length_cons]; omega),show idx ((k:Int) :: t) 0=some (k:Int) from rfl,Option.bind_some,yv (by omega)]
   have:=Sc L1 h1 L2 h2 k t d h w hw hl n1 k (1000 - k) [] (by omega) (by simpa using hs)
   rw [show k+1+(1000 - k)=1001 by omega] at this
   rw [this]
   simp [hw]
def tU (l:List Int):Prop:=l.length ≤ 3
def wY (l:List Int):List Int:=l.reverse
theorem Y0 (l:List Int) (hl:l.length ≤ 3):∀ (m e:Nat) (acc:List Int),m ≤ l.length→acc=(l.drop m).reverse→wx (m+1+e) l ((m:Int) - 1) acc=some l.reverse
 | 0,e,acc,hm,ha=>by
   rw [nL]
   simp only [wx]
   rw [if_neg (by omega),ha]; rfl
 | m+1,e,acc,hm,ha=>by
   rw [yV]
   simp only [wx]
   have hx:l[m]? =some l[m]:=List.getElem?_eq_getElem (by omega)
   have hlen:acc.length ≤ 3:=by rw [ha,List.length_reverse,List.length_drop]; omega
   rw [show (((m+1:Nat):Int) - 1)=(m:Int) by omega,if_pos (by omega),no,hx,Option.bind_some,if_pos (vL (by unfold small; simp only [List.length_append,List.length_singleton]; omega)),yv (by omega)]
   refine Y0 l hl m e _ (by omega) ?_
   rw [ha,List.drop_eq_getElem_cons (show m < l.length by omega),List.reverse_cons]
theorem cK (l:List Int) (h:tU l):∃ N,tL N l=some (wY l):=by
 refine ⟨l.length+1,?_⟩
 have h':l.length ≤ 3:=h
 unfold tL wY
 rw [yv (by omega)]
 exact Y0 l h l.length 0 [] (Nat.le_refl _) (by simp)
def zV (l:List Nat):List Int:=l.map Int.ofNat
def tW (S:List Int) (i:Int):Prop:=∃ (T:List Nat) (k:Nat),S=zV T∧i=(k:Int)∧T.length ≤ 3∧(∀ x ∈ T,0 < x)∧(∀ x ∈ T,x ≤ 1000)∧k ≤ 1000
def vV:List Nat→Nat→List Nat
 | [],_=>[]
 | a :: t,i=>(i % a) :: vV t (i / a)
def vY (S:List Int) (i:Int):List Int:=(zV (vV (S.reverse.map Int.toNat) i.toNat)).reverse
theorem nb (l:List Nat):(zV l).length=l.length:=List.length_map ..
theorem dJ (a:List Nat):zV a.reverse=(zV a).reverse:=by simp [zV]
theorem YX (T:List Nat) (h3:T.length ≤ 3) (hp:∀ x ∈ T,0 < x):∀ (q:List Nat) (r:List Nat) (k e:Nat) (R:List Int),T=q.reverse++r→R.length=r.length→k ≤ 1000→
  wD (q.length+1+e) (zV T) (k:Int) ((q.length:Int) - 1) (List.replicate q.length 0++R)=some ((zV (vV q k)).reverse++R)
 | [],r,k,e,R,hT,hR,hk=>by
   rw [show ([]:List Nat).length+1+e=e+1 by simp; omega]
   simp only [wD]
   rw [if_neg (by simp)]
   simp [vV,zV]
 | x :: q,r,k,e,R,hT,hR,hk=>by
   rw [show (x :: q).length+1+e=(q.length+1+e)+1 by simp; omega]
   simp only [wD]
   have hx:0 < x:=hp x (by rw [hT]; simp)
   have hTl:T.length=q.length+1+r.length:=by rw [hT]; simp; omega
   have htm:Int.tmod (k:Int) (x:Int)=((k % x:Nat):Int):=rfl
   have hdv:k / x ≤ 1000:=by have:=Nat.div_le_self k x; omega
   have hi:idx (zV T) (q.length:Int)=some (x:Int):=by
    rw [no,hT]
    simp [zV]
   have hs:uM (List.replicate (x :: q).length 0++R) (Int.toNat (q.length:Int)) (Int.tmod (k:Int) (x:Int))=some (List.replicate q.length 0++(((k % x:Nat):Int) :: R)):=by
    rw [htm]
    unfold uM
    rw [Int.toNat_natCast,if_pos (by simp; omega),List.set_append_left _ _ (by simp)]
    congr 1
    rw [List.length_cons,List.replicate_succ',List.set_append_right _ _ (by simp)]
    simp
   rw [show (((x :: q).length:Int) - 1)=(q.length:Int) by simp,if_pos (by omega),hi]
   simp only [Option.bind_some]
   rw [if_neg (by omega),if_pos ⟨by omega,by simp; omega⟩,hs]
   simp only [Option.bind_some]
   have hdd:Int.tdiv (k:Int) (x:Int)=((k / x:Nat):Int):=rfl
   have ih:=YX T h3 hp q (x :: r) (k / x) e (((k % x:Nat):Int) :: R) (by rw [hT]; simp) (by simp [hR]) hdv
   have hw:w64 ((k / x:Nat):Int)=((k / x:Nat):Int):=by
    generalize k / x=z at hdv
    exact yv (by omega)
   rw [if_neg (by omega),hdd,hw,yv (by omega),ih]
   simp [vV,zV]
theorem cn (S:List Int) (i:Int) (h:tW S i):∃ N,u7 N S i=some (vY S i):=by
 obtain ⟨T,k,rfl,rfl,h3,hp,hb,hk⟩:=h
 refine ⟨T.length+1,?_⟩
 unfold u7 vY
 rw [nb,if_pos (by unfold mN uQ; omega),yv (by omega)]
 have:=YX T h3 hp T.reverse [] k 0 [] (by simp) rfl hk
 rw [List.length_reverse] at this
 simp only [List.append_nil,Nat.add_zero] at this
 rw [this,Int.toNat_natCast]
 have e:(zV T).reverse.map Int.toNat=T.reverse:=by
  rw [← dJ]
  simp [zV,List.map_map,Function.comp_def]
 rw [e]
def xn:List Nat→Nat
 | []=>1
 | x :: l=>x * xn l
def qX (s d p:List Int):Prop:=∃ (T:List Nat) (i:Nat),s=zV T∧p=zV (vV T i)∧(∀ x ∈ T,0 < x)∧T.length ≤ 3∧d.length=xn T∧d.length ≤ 1000
def rU:List Nat→List Nat→Nat→Nat
 | a :: t,p :: q,acc=>rU t q (acc * a+p)
 | _,_,acc=>acc
def uZ (s d p:List Int):Int:=d.getD (rU (s.map Int.toNat) (p.map Int.toNat) 0) 0
theorem j4:∀ (s:List Nat) (i:Nat),(vV s i).length=s.length
 | [],_=>rfl
 | a :: t,i=>by simp [vV,j4 t]
theorem kW (l:List Nat):(zV l).map Int.toNat=l:=by simp [zV,List.map_map,Function.comp_def]
theorem aD:∀ {l:List Nat},(∀ x ∈ l,0 < x)→0 < xn l
 | [],_=>by simp [xn]
 | x :: l,h=>Nat.mul_pos (h x (by simp)) (aD fun y hy=>h y (by simp [hy]))
theorem SI (T P:List Nat) (d:List Int) (hd:d.length ≤ 1000) (h3:P.length ≤ 3) (hTP:T.length=P.length):∀ (t:List Nat) (i j e acc Q:Nat),T.drop j=t→P.drop j=vV t i→(∀ x ∈ t,0 < x)→acc < Q→d.length=Q * xn t→
  vu (t.length+1+e) (zV P) (acc:Int) (j:Int) (zV T) d=some (d.getD (rU t (vV t i) acc) 0)
 | [],i,j,e,acc,Q,hT,hP,hx,ha,hl=>by
   rw [show ([]:List Nat).length+1+e=e+1 by simp; omega]
   simp only [vu]
   rw [if_neg (by rw [nb]; exact pI hP),no]
   simp only [xn,Nat.mul_one] at hl
   rw [List.getElem?_eq_getElem (by omega)]
   simp only [Option.bind_some,vV,rU]
   rw [List.getD_eq_getElem?_getD,List.getElem?_eq_getElem (by omega)]; rfl
 | x :: t,i,j,e,acc,Q,hT,hP,hx,ha,hl=>by
   rw [show (x :: t).length+1+e=(t.length+1+e)+1 by simp; omega]
   simp only [vu]
   obtain ⟨a1,a2,a3,a4,a5,a6⟩:=u4 hT
   obtain ⟨b1,b2,b3,b4,b5,b6⟩:=u4 hP
   have hx0:=hx x (by simp)
   have hpos:=aD (l:=t) (fun y hy=>hx y (by simp [hy]))
   have h1:acc * x+i % x < Q * x:=by
    have:=Nat.mod_lt i hx0
    have h2:(acc+1) * x ≤ Q * x:=Nat.mul_le_mul_right x ha
    rw [Nat.add_mul,Nat.one_mul] at h2
    omega
   have h2:d.length=Q * x * xn t:=by rw [hl,xn,Nat.mul_assoc]
   have h4:Q * x ≤ 1000:=by
    have:=Nat.mul_le_mul_left (Q * x) hpos
    rw [Nat.mul_one] at this
    omega
   have iT:idx (zV T) (j:Int)=some (x:Int):=by rw [no]; simp [zV,a4]
   have iP:idx (zV P) (j:Int)=some ((i % x:Nat):Int):=by rw [no]; simp [zV,b4]
   have e1:(acc:Int) * (x:Int)=((acc * x:Nat):Int):=by simp
   rw [if_pos (by rw [nb]; exact b2),iT]
   simp only [Option.bind_some]
   rw [iP]
   simp only [Option.bind_some]
   rw [e1,yv (n:=((acc * x:Nat):Int)) (by omega),show ((acc * x:Nat):Int)+((i % x:Nat):Int)=((acc * x+i % x:Nat):Int) by omega,yv (by omega),wT b1 (by rw [wc]; omega),
    SI T P d hd h3 hTP t (i / x) (j+1) e (acc * x+i % x) (Q * x) a5 b5 (fun y hy=>hx y (by simp [hy])) h1 h2]
   simp only [rU,vV]
theorem Zh (s d p:List Int) (h:qX s d p):∃ N,qq N s d p=some (uZ s d p):=by
 obtain ⟨T,i,rfl,rfl,hp,h3,hl,hd⟩:=h
 refine ⟨T.length+1,?_⟩
 unfold qq uZ
 rw [kW,kW]
 exact SI T (vV T i) d hd (by rw [j4]; exact h3) (by rw [j4]) T i 0 0 0 1 rfl rfl hp (by omega) (by rw [hl,Nat.one_mul])
def nG (s d:List Int):Prop:=ww s d=true
def oW (s:List Nat) (i:Nat):Nat:=rU s (vV s i) 0
def UE (s:List Nat) (d:List Int):List Int:=(List.range d.length).map fun i=>d.getD (oW s i) 0
def jL (s d:List Int):List Int×List Int:=(s.reverse,UE (s.map Int.toNat) d)
def oF (s d:List Int):List Int×List Int:=jL s d
theorem Ti (x:Nat) (l:List Nat):zV (x :: l)=(x:Int) :: zV l:=rfl
theorem dQ:∀ l:List Nat,xO (zV l)=(xn l:Int)
 | []=>rfl
 | x :: l=>by rw [Ti,xO,dQ l,xn]; simp
theorem aW {s d:List Int} (h:ww s d=true):∃ T:List Nat,s=zV T∧T.length ≤ 3∧d.length=xn T∧d.length ≤ 1000:=by
 obtain ⟨h1,h2,h3,h4,h5⟩:=yR h
 obtain ⟨a1,a2,a3⟩:=vN h
 have key:∀ l:List Int,l.all tO=true→∃ T:List Nat,l=zV T:=by
  intro l
  induction l with
  | nil=>exact fun _=>⟨[],rfl⟩
  | cons x l ih=>
    intro hl
    simp only [List.all_cons,Bool.and_eq_true,tO,decide_eq_true_eq] at hl
    obtain ⟨T,hT⟩:=ih hl.2
    obtain ⟨n,hn⟩:=Int.eq_ofNat_of_zero_le hl.1.1
    exact ⟨n :: T,by rw [hT,hn]; rfl⟩
 obtain ⟨T,hT⟩:=key s ((rt s).1 a2).2.1
 refine ⟨T,hT,by rw [hT,nb] at h3; exact h3,?_,h4⟩
 have:=Wx h
 rw [hT,dQ] at this
 omega
def rD (s:List Nat) (d:List Int) (j:Nat):List Int:=(List.range j).map fun i=>d.getD (oW s i) 0
theorem mD (s:List Nat) (d:List Int) (j:Nat):rD s d (j+1)=rD s d j++[d.getD (oW s j) 0]:=by simp [rD,List.range_succ]
theorem lA (s:List Nat) (d:List Int) (j:Nat):(rD s d j).length=j:=by simp [rD]
theorem vf:∀ {T:List Nat},0 < xn T→∀ x ∈ T,0 < x
 | [],_,x,h=>by cases h
 | a :: t,h,x,hx=>by
   rw [xn] at h
   rcases List.mem_cons.1 hx with rfl | hx
   ·exact Nat.pos_of_mul_pos_right h
   ·exact vf (Nat.pos_of_mul_pos_left h) x hx
theorem nl:∀ {T:List Nat},0 < xn T→∀ x ∈ T,x ≤ xn T
 | [],_,x,h=>by cases h
 | a :: t,h,x,hx=>by
   have ht:0 < xn t:=by rw [xn] at h; exact Nat.pos_of_mul_pos_left h
   have ha:0 < a:=vf h a (by simp)
   rw [xn]
   rcases List.mem_cons.1 hx with rfl | hx
   ·exact Nat.le_mul_of_pos_right _ ht
   ·exact Nat.le_trans (nl ht x hx) (Nat.le_mul_of_pos_left _ ha)
theorem Wk (L1:List Int→Option (List Int)) (h1:∀ l,tU l→L1 l=some (wY l)) (L2:List Int→Int→Option (List Int)) (h2:∀ S i,tW S i→L2 S i=some (vY S i))
  (L3:List Int→List Int→List Int→Option Int) (h3:∀ s d p,qX s d p→L3 s d p=some (uZ s d p)) (T:List Nat) (d:List Int) (hT:T.length ≤ 3) (hl:d.length=xn T) (hd:d.length ≤ 1000):∀ (m j e:Nat),j+m=d.length→
  vI L1 L2 L3 (m+1+e) (j:Int) (zV T) d (zV T.reverse) (rD T d j)=some (zV T.reverse,rD T d d.length)
 | 0,j,e,hj=>by
   rw [nL]
   simp only [vI]
   obtain rfl:j=d.length:=by omega
   rw [if_neg (by omega)]
 | m+1,j,e,hj=>by
   rw [yV]
   simp only [vI]
   have hp0:0 < xn T:=by omega
   have hp:=vf hp0
   have hb:∀ x ∈ T,x ≤ 1000:=fun x hx=>by have:=nl hp0 x hx; omega
   rw [if_pos (by omega),h2 _ _ ⟨T.reverse,j,rfl,rfl,by simpa using hT,fun x hx=>hp x (by simpa using hx),fun x hx=>hb x (by simpa using hx),by omega⟩]
   simp only [Option.bind_some,vY,Int.toNat_natCast]
   have e1:(zV T.reverse).reverse.map Int.toNat=T:=by rw [← dJ,List.reverse_reverse,kW]
   rw [e1,h1 _ (by show _ ≤ 3; rw [List.length_reverse,nb,j4]; exact hT)]
   simp only [Option.bind_some,wY,List.reverse_reverse]
   rw [h3 _ _ _ ⟨T,j,rfl,rfl,hp,hT,hl,hd⟩]
   simp only [Option.bind_some,uZ,kW]
   rw [if_pos (vL (by unfold small; simp only [List.length_append,lA,List.length_singleton]; omega)),wT (show j < d.length by omega) (by rw [wc]; omega)]
   have:=Wk L1 h1 L2 h2 L3 h3 T d hT hl hd m (j+1) e (by omega)
   rw [mD] at this
   exact this
theorem Zg (L1:List Int→Option (List Int)) (h1:∀ l,tU l→L1 l=some (wY l)) (L2:List Int→Int→Option (List Int)) (h2:∀ S i,tW S i→L2 S i=some (vY S i))
  (L3:List Int→List Int→List Int→Option Int) (h3:∀ s d p,qX s d p→L3 s d p=some (uZ s d p)) (s d:List Int) (h:nG s d):∃ N,rP L1 L2 L3 N s d=some (oF s d):=by
 obtain ⟨T,rfl,hT,hl,hd⟩:=aW h
 refine ⟨1001,?_⟩
 unfold rP oF jL
 rw [h1 _ (by show _ ≤ 3; rw [nb]; exact hT)]
 simp only [Option.bind_some,wY,kW,← dJ]
 have:=Wk L1 h1 L2 h2 L3 h3 T d hT hl hd d.length 0 (1000 - d.length) (by omega)
 rw [show d.length+1+(1000 - d.length)=1001 by omega] at this
 exact this
def oV (s d:List Int):Prop:=True
def gA (s:List Int):Int:=if s.length=0 then 1 else s.headD 0
def oh (s d:List Int):Int:=gA s
theorem bR (s d:List Int) (h:oV s d):∃ N,re N s d=some (oh s d):=by
 refine ⟨0,?_⟩
 unfold re oh gA
 cases s with
 | nil=>rfl
 | cons n t=>rw [if_neg (by simp only [List.length_cons]; omega),if_neg (by simp)]; rfl
def ng (s d:List Int):Prop:=ww s d=true
def md (s d:List Int):List Int×List Int:=([(d.length:Int)],pW d)
def tS (l:List Nat):List Int:=l.map Int.ofNat
theorem rF (l:List Nat):(tS l).length=l.length:=List.length_map ..
theorem PR (l:List Nat) (j:Nat):(tS l)[j]? =(l[j]?).map Int.ofNat:=List.getElem?_map ..
theorem WP (X:Nat→Int) (i:Nat):∀ (out:List Nat),(out.takeWhile (fun p=>decide (X p ≤ X i))).length ≤ out.length∧out.take (out.takeWhile (fun p=>decide (X p ≤ X i))).length=out.takeWhile (fun p=>decide (X p ≤ X i))∧
  out.drop (out.takeWhile (fun p=>decide (X p ≤ X i))).length=out.dropWhile (fun p=>decide (X p ≤ X i))
 | []=>by simp
 | q :: out=>by
   obtain ⟨h1,h2,h3⟩:=WP X i out
   rw [List.takeWhile_cons,List.dropWhile_cons]
   split
   ·simp only [List.length_cons,List.take_succ_cons,List.drop_succ_cons]
    exact ⟨by omega,by rw [h2],h3⟩
   ·simp
theorem qN {n:Nat} (h:n ≤ 1000000):w64 (n:Int)=(n:Int):=yv (by omega)
theorem fH {x y:Nat} (h:x * y ≤ 1000000):w64 ((x:Int) * (y:Int))=((x * y:Nat):Int):=by
 rw [show (x:Int) * (y:Int)=((x * y:Nat):Int) by simp]; exact qN h
section
variable (L1:List Int→Option (List Int)) (L2:List Int→Option (List Int)) (L3:List Int→Option (Res (List Int×Option Nat×List Int)))
theorem g0 (N m:Nat) (x k:Int) (s d S o q:List Int) (s0 s1 s2 a0 a1 a2 y:Int) (hk:0 ≤ k) (hi:w64 (w64 ((s.length:Int) - 1) - k)=0) (hy:idx s k=some y):
  yl L1 L2 L3 N (m+1) x k s d S o q s0 s1 s2 a0 a1 a2=yl L1 L2 L3 N m (w64 (x * y)) (w64 (k - 1)) s d S o q x s1 s2 a0 a1 a2:=by
 have t:Int.toNat 0=0:=rfl
 rw [yl,if_pos hk,hi,hy]
 simp [t]
theorem g1 (N m:Nat) (x k:Int) (s d S o q:List Int) (s0 s1 s2 a0 a1 a2 y:Int) (hk:0 ≤ k) (hi:w64 (w64 ((s.length:Int) - 1) - k)=1) (hy:idx s k=some y):
  yl L1 L2 L3 N (m+1) x k s d S o q s0 s1 s2 a0 a1 a2=yl L1 L2 L3 N m (w64 (x * y)) (w64 (k - 1)) s d S o q s0 x s2 a0 a1 a2:=by
 have t:Int.toNat 1=1:=rfl
 rw [yl,if_pos hk,hi,hy]
 simp [t]
theorem g2 (N m:Nat) (x k:Int) (s d S o q:List Int) (s0 s1 s2 a0 a1 a2 y:Int) (hk:0 ≤ k) (hi:w64 (w64 ((s.length:Int) - 1) - k)=2) (hy:idx s k=some y):
  yl L1 L2 L3 N (m+1) x k s d S o q s0 s1 s2 a0 a1 a2=yl L1 L2 L3 N m (w64 (x * y)) (w64 (k - 1)) s d S o q s0 s1 x a0 a1 a2:=by
 have t:Int.toNat 2=2:=rfl
 rw [yl,if_pos hk,hi,hy]
 simp [t]
theorem gn (N m:Nat) (x:Int) (s d S o q:List Int) (s0 s1 s2 a0 a1 a2:Int):
  yl L1 L2 L3 N (m+1) x (-1) s d S o q s0 s1 s2 a0 a1 a2=yg L1 L2 L3 N N (d.length:Int) 0 s d S o q s0 s1 s2 a0 a1 a2:=by
 rw [yl,if_neg (by omega)]
theorem wn (n:Int) (h:-1000000 ≤ n∧n ≤ 1000000):w64 n=n:=yv (by omega)
theorem MU (a b c:Nat) (hb:b ≤ 1000) (hc:c ≤ 1000) (d o:List Int):yl L1 L2 L3 1001 1001 1 2 (zV [a,b,c]) d (zV [c,b,a]) o [] 0 0 0 0 0 0=
  yg L1 L2 L3 1001 1001 (d.length:Int) 0 (zV [a,b,c]) d (zV [c,b,a]) o [] 1 (c:Int) ((c * b:Nat):Int) 0 0 0:=by
 have hcb:c * b ≤ 1000000:=Nat.mul_le_mul hc hb
 have hl:w64 ((List.length (zV [a,b,c]):Int) - 1)=2:=wn 2 (by omega)
 refine (g0 L1 L2 L3 1001 1000 _ _ _ _ _ _ _ _ _ _ _ _ _ (c:Int) (by omega) (by rw [hl]; exact wn 0 (by omega)) rfl).trans ?_
 rw [show w64 (1 * (c:Int))=(c:Int) by rw [Int.one_mul]; exact qN (by omega),show w64 (2 - 1)=1 from (wn (2 - 1) (by omega)).trans rfl]
 refine (g1 L1 L2 L3 1001 999 _ _ _ _ _ _ _ _ _ _ _ _ _ (b:Int) (by omega) (by rw [hl]; exact wn 1 (by omega)) rfl).trans ?_
 rw [fH hcb,show w64 (1 - 1)=0 from (wn (1 - 1) (by omega)).trans rfl]
 refine (g2 L1 L2 L3 1001 998 _ _ _ _ _ _ _ _ _ _ _ _ _ (a:Int) (by omega) (by rw [hl]; exact wn 2 (by omega)) rfl).trans ?_
 rw [show w64 (0 - 1)=-1 from (wn (0 - 1) (by omega)).trans rfl]
 exact gn L1 L2 L3 1001 997 _ _ _ _ _ _ _ _ _ _ _ _
theorem NB (a b:Nat) (hb:b ≤ 1000) (d o:List Int):yl L1 L2 L3 1001 1001 1 1 (zV [a,b]) d (zV [b,a]) o [] 0 0 0 0 0 0=
  yg L1 L2 L3 1001 1001 (d.length:Int) 0 (zV [a,b]) d (zV [b,a]) o [] 1 (b:Int) 0 0 0 0:=by
 have hl:w64 ((List.length (zV [a,b]):Int) - 1)=1:=wn 1 (by omega)
 refine (g0 L1 L2 L3 1001 1000 _ _ _ _ _ _ _ _ _ _ _ _ _ (b:Int) (by omega) (by rw [hl]; exact wn 0 (by omega)) rfl).trans ?_
 rw [show w64 (1 * (b:Int))=(b:Int) by rw [Int.one_mul]; exact qN (by omega),show w64 (1 - 1)=0 from (wn (1 - 1) (by omega)).trans rfl]
 refine (g1 L1 L2 L3 1001 999 _ _ _ _ _ _ _ _ _ _ _ _ _ (a:Int) (by omega) (by rw [hl]; exact wn 1 (by omega)) rfl).trans ?_
 rw [show w64 (0 - 1)=-1 from (wn (0 - 1) (by omega)).trans rfl]
 exact gn L1 L2 L3 1001 998 _ _ _ _ _ _ _ _ _ _ _ _
theorem Nm (a:Nat) (d o:List Int):yl L1 L2 L3 1001 1001 1 0 (zV [a]) d (zV [a]) o [] 0 0 0 0 0 0=
  yg L1 L2 L3 1001 1001 (d.length:Int) 0 (zV [a]) d (zV [a]) o [] 1 0 0 0 0 0:=by
 have hl:w64 ((List.length (zV [a]):Int) - 1)=0:=wn 0 (by omega)
 refine (g0 L1 L2 L3 1001 1000 _ _ _ _ _ _ _ _ _ _ _ _ _ (a:Int) (by omega) (by rw [hl]; exact wn 0 (by omega)) rfl).trans ?_
 rw [show w64 (0 - 1)=-1 from (wn (0 - 1) (by omega)).trans rfl]
 exact gn L1 L2 L3 1001 999 _ _ _ _ _ _ _ _ _ _ _ _
end
theorem TY (L1:List Int→Option (List Int)) (h1:∀ l,xM l→L1 l=some (xj l)) (L2:List Int→Option (List Int×List Int)) (K:Int→List Int→List Int→List Int→Option (List Int×List Int))
  (s d:List Int) (hd:d.length ≤ 1000) (i:Nat) (hi:i < d.length) (out:List Nat) (ho:out.length ≤ 1000) (hlt:∀ p ∈ out,p < d.length):∀ (r:List Nat) (j e:Nat),out.drop j=r→j ≤ out.length→
    (∀ q,q < j→∀ p,out[q]? =some p→d.getD p 0 ≤ d.getD i 0)→
    wW L1 L2 K (r.length+1+e) (i:Int) j s d (tS out)=K ((i+1:Nat):Int) s d (tS (pE (fun t=>d.getD t 0) out i)):=by
 have fin:∀ (n:Nat),n ≤ out.length→(out.takeWhile (fun p=>decide (d.getD p 0 ≤ d.getD i 0))).length=n→
   ((cut (tS out) 0 (n:Int)).bind fun y3=>(L1 y3).bind fun y4=>if v7 8 (List.length (y4++[(i:Int)])) then ((cut (tS out) (n:Int) (↑(List.length (tS out)):Int)).bind fun y5=>
     if v7 8 (List.length (y4++[(i:Int)]++y5)) then K (w64 ((i:Int)+1)) s d (y4++[(i:Int)]++y5) else none) else none)=K ((i+1:Nat):Int) s d (tS (pE (fun t=>d.getD t 0) out i)):=by
  intro n hn hw
  have c1:cut (tS out) 0 (n:Int)=some (tS (out.take n)):=by
   unfold cut
   rw [if_pos (by rw [rF]; omega)]
   simp [tS,List.map_take]
  have c2:cut (tS out) (n:Int) (↑(List.length (tS out)):Int)=some (tS (out.drop n)):=by
   unfold cut
   rw [if_pos (by rw [rF]; omega),Int.toNat_natCast,List.take_of_length_le (by simp <;> omega)]
   simp [tS,List.map_drop]
  have n1:(tS (out.take n)).length ≤ 1000:=by rw [rF,List.length_take]; omega
  have n2:(tS (out.drop n)).length ≤ 1000:=by rw [rF,List.length_drop]; omega
  rw [c1,Option.bind_some,show L1 (tS (out.take n))=some (tS (out.take n)) from h1 _ (by show small _; unfold small; omega),Option.bind_some]
  rw [if_pos (vL (by unfold small; simp only [List.length_append,List.length_singleton]; omega)),c2,Option.bind_some,
   if_pos (vL (by unfold small; simp only [List.length_append,List.length_singleton]; omega)),wT hi (by rw [wc]; omega)]
  congr 1
  obtain ⟨t1,t2,t3⟩:=WP (fun t=>d.getD t 0) i out
  unfold pE
  rw [hw] at t2 t3
  rw [← t2,← t3]
  simp [tS]
 have tw:∀ n,n ≤ out.length→(∀ q,q < n→∀ p,out[q]? =some p→d.getD p 0 ≤ d.getD i 0)→(∀ p,out[n]? =some p→¬ d.getD p 0 ≤ d.getD i 0)→(out.takeWhile (fun p=>decide (d.getD p 0 ≤ d.getD i 0))).length=n:=by
  have key:∀ (out:List Nat) (n:Nat),n ≤ out.length→(∀ q,q < n→∀ p,out[q]? =some p→d.getD p 0 ≤ d.getD i 0)→(∀ p,out[n]? =some p→¬ d.getD p 0 ≤ d.getD i 0)→(out.takeWhile (fun p=>decide (d.getD p 0 ≤ d.getD i 0))).length=n:=by
   intro out
   induction out with
   | nil=>intro n hn _ _; simp at hn; subst hn; rfl
   | cons x out ih=>
     intro n hn ha hb
     rw [List.takeWhile_cons]
     cases n with
     | zero=>
       rw [if_neg (by simpa using hb x rfl)]; rfl
     | succ n=>
       rw [if_pos (by simpa using ha 0 (by omega) x rfl),List.length_cons,ih n (by simpa using hn) (fun q hq p hp=>ha (q+1) (by omega) p (by simpa using hp)) (fun p hp=>hb p (by simpa using hp))]
  exact key out
 intro r
 induction r with
 | nil=>
   intro j e hdr hj hq
   rw [show ([]:List Nat).length+1+e=e+1 by simp; omega]
   simp only [wW]
   have hlen:=pI hdr
   rw [if_neg (by rw [rF]; exact hlen)]
   have hj':j=out.length:=by omega
   refine fin j hj (tw j hj hq fun p hp=>?_)
   rw [hj',List.getElem?_eq_none (by omega)] at hp; cases hp
 | cons x r ih=>
   intro j e hdr hj hq
   obtain ⟨a1,a2,a3,a4,a5,a6⟩:=u4 hdr
   have hx:=hlt x (List.mem_of_getElem? a4)
   rw [show (x :: r).length+1+e=(r.length+1+e)+1 by simp; omega]
   simp only [wW]
   rw [if_pos (by rw [rF]; exact a2),if_pos ⟨by omega,by rw [rF]; exact a2⟩,Int.toNat_natCast,PR,a4]
   simp only [Option.map_some,Option.bind_some,Int.ofNat_eq_natCast]
   rw [no,no,List.getElem?_eq_getElem hx,List.getElem?_eq_getElem hi]
   simp only [Option.bind_some]
   have g1:d[x]=d.getD x 0:=by rw [List.getD_eq_getElem?_getD,List.getElem?_eq_getElem hx]; rfl
   have g2:d[i]=d.getD i 0:=by rw [List.getD_eq_getElem?_getD,List.getElem?_eq_getElem hi]; rfl
   rw [g1,g2]
   by_cases c:d.getD x 0 ≤ d.getD i 0
   ·rw [if_pos c,wT a1 (by rw [wc]; omega)]
    refine ih (j+1) e a5 (by omega) fun q hq' p hp=>?_
    by_cases hqj:q=j
    ·subst hqj
     rw [a4] at hp
     injection hp with hp
     subst hp
     exact c
    ·exact hq q (by omega) p hp
   ·rw [if_neg c]
    refine fin j hj (tw j hj hq fun p hp=>?_)
    rw [a4] at hp
    injection hp with hp
    subst hp
    exact c
theorem kG (X:Nat→Int) (n:Nat):(sZ X n).length=n∧∀ p ∈ sZ X n,p < n:=by
 obtain ⟨h1,h2⟩:=mj X n
 exact ⟨by rw [h1.length_eq,List.length_range],fun p hp=>List.mem_range.1 (h1.mem_iff.1 hp)⟩
theorem aU (L1:List Int→Option (List Int)) (h1:∀ l,xM l→L1 l=some (xj l)) (L2:List Int→Option (List Int×List Int)) (h2:∀ l,wg l→L2 l=some (xK l))
  (s d:List Int) (hd:d.length ≤ 1000):∀ (m j e:Nat),j+m=d.length→
    wi L1 L2 1001 (m+1+e) (j:Int) s d (tS (sZ (fun t=>d.getD t 0) j))=some ([(d.length:Int)],pW d)
 | 0,j,e,hj=>by
   rw [nL]
   simp only [wi]
   obtain rfl:j=d.length:=by omega
   rw [if_neg (by omega),h2 _ (by show small _; unfold small; rw [rF,(kG _ _).1]; omega)]
   simp only [Option.bind_some,xK,rF,(kG _ _).1]
   rfl
 | m+1,j,e,hj=>by
   rw [yV]
   simp only [wi]
   obtain ⟨g1,g2⟩:=kG (fun t=>d.getD t 0) j
   rw [if_pos (by omega)]
   have hx:=TY L1 h1 L2 (wi L1 L2 1001 (m+1+e)) s d hd j (by omega) (sZ (fun t=>d.getD t 0) j) (by omega) (fun p hp=>by have:=g2 p hp; omega) (sZ (fun t=>d.getD t 0) j) 0 (1000 - j) rfl (by omega) (fun q hq=>by omega)
   rw [g1,show j+1+(1000 - j)=1001 by omega] at hx
   rw [show ((0:Nat):Int)=0 by rfl] at hx
   rw [hx]
   exact aU L1 h1 L2 h2 s d hd m (j+1) e (by omega)
theorem bU (L1:List Int→Option (List Int)) (h1:∀ l,xM l→L1 l=some (xj l)) (L2:List Int→Option (List Int×List Int)) (h2:∀ l,wg l→L2 l=some (xK l))
  (s d:List Int) (h:ng s d):∃ N,pO L1 L2 N s d=some (md s d):=by
 refine ⟨1001,?_⟩
 have hd:=(yR h).2.2.2.1
 have:=aU L1 h1 L2 h2 s d hd d.length 0 (1000 - d.length) (by omega)
 rw [show d.length+1+(1000 - d.length)=1001 by omega] at this
 exact this
def sG (f:Int) (s d:List Int):Prop:=small s∧small d
def gz (s d:List Int):Except Int (List Int×List Int):=if s.length=1 then .ok ([(d.length:Int)],pW d) else .error 2
def be (f:Int) (s d:List Int):Except Int (List Int×List Int):=
 if f=1 then kJ s d else if f=2 then .ok ([(s.length:Int)],s) else if f=3 then .ok ([(d.length:Int)],d) else if f=4 then .ok (ay s d) else if f=5 then .ok (jL s d) else if f=7 then .ok ([],[gA s]) else gz s d
def xl (f:Int) (s d:List Int):List Int×List Int×Int:=if (1 ≤ f∧f ≤ 7)∧ww s d=true then tri (be f s d) else ([],[],9)
theorem Z1 (L1:List Int→List Int→Option Bool) (h1:∀ s d,o9 s d→L1 s d=some (t7 s d))
  (L2:List Int→List Int→Option (List Int×List Int×Int)) (h2:∀ s d,nU s d→L2 s d=some (oH s d))
  (L3:List Int→Option (List Int×List Int)) (h3:∀ s,wg s→L3 s=some (xK s))
  (L4:List Int→List Int→Option (List Int×List Int)) (h4:∀ s d,nX s d→L4 s d=some (nF s d))
  (L5:List Int→List Int→Option (List Int×List Int)) (h5:∀ s d,nG s d→L5 s d=some (oF s d))
  (L6:List Int→List Int→Option Int) (h6:∀ s d,oV s d→L6 s d=some (oh s d))
  (L7:List Int→List Int→Option (List Int×List Int)) (h7:∀ s d,ng s d→L7 s d=some (md s d))
  (f:Int) (s d:List Int) (h:sG f s d):∃ N,pk L1 L2 L3 L4 L5 L6 L7 N f s d=some (xl f s d):=by
 obtain ⟨ss,sd⟩:=h
 refine ⟨0,?_⟩
 unfold pk xl
 by_cases c1:f < 1
 ·rw [if_pos c1,if_neg (fun q=>by have:=q.1.1; omega)]
 rw [if_neg c1]
 by_cases c2:7 < f
 ·rw [if_pos c2,if_neg (fun q=>by have:=q.1.2; omega)]
 rw [if_neg c2,h1 _ _ ⟨ss,sd⟩]
 simp only [Option.bind_some,t7]
 cases ha:ww s d with
 | false=>rw [if_pos rfl,if_neg (fun q=>by cases q.2)]
 | true=>
 rw [if_neg (by simp),if_pos (show (1 ≤ f∧f ≤ 7)∧true=true from ⟨⟨by omega,by omega⟩,rfl⟩)]
 unfold be
 by_cases f1:f=1
 ·rw [if_pos f1,if_pos f1,h2 _ _ ha]; rfl
 rw [if_neg f1,if_neg f1]
 by_cases f2:f=2
 ·rw [if_pos f2,if_pos f2,h3 _ ss]; rfl
 rw [if_neg f2,if_neg f2]
 by_cases f3:f=3
 ·rw [if_pos f3,if_pos f3,h3 _ sd]; rfl
 rw [if_neg f3,if_neg f3]
 by_cases f4:f=4
 ·rw [if_pos f4,if_pos f4,h4 _ _ ha]; rfl
 rw [if_neg f4,if_neg f4]
 by_cases f5:f=5
 ·rw [if_pos f5,if_pos f5,h5 _ _ ha]; rfl
 rw [if_neg f5,if_neg f5]
 by_cases f7:f=7
 ·rw [if_pos f7,if_pos f7,h6 _ _ trivial]; rfl
 rw [if_neg f7,if_neg f7]
 unfold gz
 by_cases c:s.length=1
 ·rw [if_pos (by omega),if_pos c,h7 _ _ ha]; rfl
 ·rw [if_neg (by omega),if_neg c]; rfl
def xf (l:List Int):Prop:=small l
def yy (l:List Int):List Int:=l
theorem qW (l:List Int) (h:xf l):(∃ N,xu N l=some (yy l))∧(∃ N,wh N=some (yy [])):=by
 refine ⟨⟨0,?_⟩,0,rfl⟩
 unfold xu yy
 rw [if_pos (vL h)]
def w9 (l:List Int):Prop:=small l
def xN (l:List Int):List Int×List Int:=([(l.length:Int)],l)
theorem dX (L:List Int→Option (List Int)) (hL:∀ l,xf l→L l=some (yy l)) (l:List Int) (h:w9 l):∃ N,ti L N l=some (xN l):=by
 refine ⟨0,?_⟩
 unfold ti xN
 rw [hL _ h]; rfl
def oY (s d:List Int):Prop:=ww s d=true
def fp (c:Int):D:= .ifaceS 123 [.int .i64 c]
def Vu:Except Int (List Int×List Int)→Res (List Int×List Int)
 | .ok p=> .ok p
 | .error c=> .pan (fp c)
def pY (s d:List Int):Res (List Int×List Int):=Vu (kJ s d)
theorem aV (L:List Int→Option (List Int×List Int)) (hL:∀ l,w9 l→L l=some (xN l)) (n:Nat) (hn:n ≤ 1000):∀ (m j e:Nat),j+m=n→
  wR L (m+1+e) (n:Int) j (oI j++List.replicate m 0)=some (.ok ([(n:Int)],oI n))
 | 0,j,e,hj=>by
   rw [nL]
   simp only [wR]
   obtain rfl:j=n:=by omega
   rw [if_neg (by omega),hL _ (by show small _; unfold small; simp [vT]; omega)]
   simp only [Option.bind_some,xN,List.replicate_zero,List.append_nil,vT]
 | m+1,j,e,hj=>by
   rw [yV]
   simp only [wR]
   have hs:uM (oI j++List.replicate (m+1) 0) (Int.toNat (j:Int)) (j:Int)=some (oI (j+1)++List.replicate m 0):=by
    unfold uM
    rw [Int.toNat_natCast,if_pos (by simp [vT]),List.set_append_right _ _ (by rw [vT]; omega)]
    simp [vT,List.replicate_succ,oI]
   rw [if_pos (by omega),if_pos ⟨by omega,by simp [vT]; omega⟩,hs,Option.bind_some,wT (show j < n by omega) (by rw [wc]; omega)]
   exact aV L hL n hn m (j+1) e (by omega)
theorem ai (L:List Int→Option (List Int×List Int)) (hL:∀ l,w9 l→L l=some (xN l)) (s d:List Int) (h:oY s d):∃ N,rl L N s d=some (pY s d):=by
 refine ⟨1001,?_⟩
 unfold rl pY
 by_cases c:s.length=0
 ·obtain ⟨x,rfl,hx⟩:=Yj h c
  rw [if_pos (by omega),aZ c,show idx [x] 0=some x from rfl]
  simp only [Option.bind_some]
  by_cases c1:x < 0
  ·rw [if_pos c1,if_pos c1]; rfl
  ·rw [if_neg c1,if_neg c1]
   by_cases c2:1000 < x
   ·rw [if_pos c2,if_pos c2]; rfl
   ·rw [if_neg c2,if_neg c2]
    obtain ⟨n,rfl⟩:=Int.eq_ofNat_of_zero_le (by omega:0 ≤ x)
    rw [if_pos (by unfold mN uQ; omega)]
    have:=aV L hL n (by omega) n 0 (1000 - n) (by omega)
    rw [show n+1+(1000 - n)=1001 by omega] at this
    exact this
 ·rw [if_neg (by omega),Xb c]; rfl
def oZ (s d:List Int):Prop:=small s
def ol (s d:List Int):List Int×List Int:=([(s.length:Int)],s)
theorem bX (L:List Int→Option (List Int×List Int)) (hL:∀ l,w9 l→L l=some (xN l)) (s d:List Int) (h:oZ s d):∃ N,ra L N s d=some (ol s d):=by
 refine ⟨0,?_⟩
 unfold ra ol
 rw [hL _ h]; rfl
def nd (s d:List Int):Prop:=small s∧small d
def pR (s d:List Int):List Int×List Int:=([(d.length:Int)],d)
theorem bL (L:List Int→Option (List Int×List Int)) (hL:∀ l,w9 l→L l=some (xN l)) (s d:List Int) (h:nd s d):
  ∃ N,s8 L N s d=some (pR s d):=by
 refine ⟨0,?_⟩
 unfold s8 pR
 rw [hL _ h.2]; rfl
def nV (s d:List Int):Prop:=small s∧small d
def mR (s d:List Int):List Int×List Int:=(s,d)
theorem ZB (L:List Int→Option (List Int)) (hL:∀ l,xf l→L l=some (yy l)) (s d:List Int) (h:nV s d):∃ N,rV L N s d=some (mR s d):=by
 refine ⟨0,?_⟩
 unfold rV
 rw [hL _ h.1,hL _ h.2]; rfl
def rz (l:List Int):Prop:=small l
def xY (l:List Int):Int×Bool:=if decide (l.length ≤ 3)&&l.all tO then (l.foldl oQ 1,decide (l.foldl oQ 1 ≤ 1000)) else (0,false)
theorem aJ (l:List Int) (hl:small l):∀ (r:List Int) (j e:Nat) (p:Int),l.drop j=r→
  w4 (r.length+1+e) p l l.length j=some (if r.all tO=true then (r.foldl (fun p x=>w64 (p * x)) p,decide (r.foldl (fun p x=>w64 (p * x)) p ≤ 1000)) else (0,false))
 | [],j,e,p,hd=>by
   rw [show ([]:List Int).length+1+e=e+1 by simp; omega]
   simp only [w4]
   rw [if_neg (pI hd)]; rfl
 | x :: r,j,e,p,hd=>by
   obtain ⟨h1,h2,h3,h4,h5,h6⟩:=u4 hd
   have hb:l.length ≤ big:=by unfold small at hl; rw [wc]; omega
   rw [show (x :: r).length+1+e=(r.length+1+e)+1 by simp; omega]
   simp only [w4]
   rw [if_pos h2,h3]
   simp only [Option.bind_some,wT h1 hb,List.all_cons,tO,List.foldl_cons]
   by_cases c1:x < 0
   ·rw [if_pos c1]; simp; omega
   ·rw [if_neg c1]
    by_cases c2:1000 < x
    ·rw [if_pos c2]; simp; omega
    ·rw [if_neg c2,aJ l hl r (j+1) e _ h5]
     have e1:decide (0 ≤ x)=true:=by simp; omega
     have e2:decide (x ≤ 1000)=true:=by simp; omega
     simp only [e1,e2,Bool.true_and]; rfl
theorem ad (l:List Int) (h:rz l):∃ N,sH N l=some (xY l):=by
 refine ⟨l.length+1,?_⟩
 unfold sH xY
 by_cases c:(3:Int) < l.length
 ·have:¬ l.length ≤ 3:=by omega
  rw [if_pos c]; simp [this]
 ·have:l.length ≤ 3:=by omega
  rw [if_neg c]
  have q:=aJ l h l 0 0 1 rfl
  rw [show l.length+1+0=l.length+1 by rfl,show ((0:Nat):Int)=0 by rfl] at q
  rw [q]
  simp only [this,decide_true,Bool.true_and]
  rfl
def oO (l:List Int):Prop:=small l
def tM (l:List Int):Res (List Int×Option Nat×List Int):=if uk l=true then .ok (l,some (xY l).1.toNat,[]) else .pan (fp 6)
theorem lM (l:List Int):(xY l).2=uk l∧(uk l=true→(xY l).1=l.foldl vJ 1):=by
 unfold xY uk
 by_cases c:l.length ≤ 3
 ·cases ha:l.all tO with
  | false=>simp
  | true=>
    have hc:=fi l c ha
    simp only [c,decide_true,Bool.true_and,if_true]
    by_cases h:l.foldl oQ 1 ≤ 1000
    ·rw [hc.1 h]; exact ⟨rfl,fun _=>rfl⟩
    ·have e:=hc.2 (by omega)
     rw [e]
     refine ⟨by simp [h],fun q=>by simp at q⟩
 ·simp [c]
theorem Wh (L1:List Int→Option (Int×Bool)) (h1:∀ l,rz l→L1 l=some (xY l)) (L2:List Int→Option (List Int)) (h2:∀ l,xf l→L2 l=some (yy l))
  (l:List Int) (h:oO l):∃ N,oz L1 L2 N l=some (tM l):=by
 refine ⟨0,?_⟩
 unfold oz tM
 rw [h1 _ h,h2 _ h]
 simp only [Option.bind_some]
 obtain ⟨e1,e2⟩:=lM l
 rw [e1]
 cases hf:uk l with
 | false=>simp [fp]
 | true=>
   have hr:=d9 hf
   have e:=e2 hf
   rw [if_neg (by simp),if_pos (by unfold mN uQ; rw [e]; omega)]
   simp [yy]
def nP (s d:List Int):Prop:=ww s d=true∧∃ n t,s=n :: t
def oE (s d:List Int):Int×Int:=if s.headD 0=0 then (0,0) else (s.headD 0,xO s.tail)
theorem eG (n:Int) (t d:List Int):oE (n :: t) d=if n=0 then (0,0) else (n,xO t):=rfl
theorem Zk (s d:List Int) (h:nP s d):∃ N,qt N s d=some (oE s d):=by
 obtain ⟨h,n,t,rfl⟩:=h
 obtain ⟨w,hw,hl,hd,n0,n1,ht,hn⟩:=Xi h
 refine ⟨0,?_⟩
 unfold qt
 rw [show idx (n :: t) 0=some n from rfl,eG]
 simp only [Option.bind_some]
 by_cases c:n=0
 ·rw [if_pos c,if_pos c]
 ·have hw0:0 ≤ (w:Int):=by omega
  have hwb:(w:Int) ≤ n * w:=by
   have:=Int.mul_le_mul_of_nonneg_right (show (1:Int) ≤ n by omega) hw0
   omega
  rw [if_neg c,if_neg c,if_neg c,hl,Int.mul_tdiv_cancel_left _ c,yv (by omega),hw]
def ow (s d:List Int):Prop:=ww s d=true
def qZ (s d:List Int):Res (List Int×List Int):= .ok (ay s d)
theorem aX {l:List Int} (h:uk l=true):tM l= .ok (l,some (xO l).toNat,[]):=by
 unfold tM
 rw [if_pos h,(lM l).2 h,gP h]
theorem ZZ (L1:List Int→List Int→Option (List Int×List Int)) (L2:List Int→Option (Res (List Int×Option Nat×List Int))) (L3:List Int→List Int→Option (Int×Int))
  (s d S:List Int) (hd:small d) (w:Nat):∀ (m e:Nat) (acc:List Int),m * w ≤ d.length→m ≤ 1000→acc.length+m * w ≤ 1000→
  wz L1 L2 L3 (m+1+e) (w:Int) ((m:Int) - 1) s d S acc=some (.ok (S,acc++lU d w m))
 | 0,e,acc,hm,h1,hs=>by
   rw [nL]
   simp only [wz]
   rw [if_neg (by omega)]
   simp [lU]
 | m+1,e,acc,hm,h1,hs=>by
   rw [yV]
   simp only [wz]
   have hs':=hs
   rw [Nat.add_mul,Nat.one_mul] at hs'
   have e1:(m:Int) * w=((m * w:Nat):Int):=by simp
   have e2:((m:Int)+1) * w=((m * w+w:Nat):Int):=by rw [Int.add_mul,Int.one_mul]; simp
   rw [show (((m+1:Nat):Int) - 1)=(m:Int) by omega,if_pos (by omega),yv (n:=(m:Int)+1) (by omega),yv (n:=(m:Int) * w) (by omega),yv (n:=((m:Int)+1) * w) (by omega),
    show ((m:Int)+1) * w=(m:Int) * w+w by rw [Int.add_mul,Int.one_mul],Wo hd hm]
   simp only [Option.bind_some]
   rw [if_pos (vL (by unfold small; rw [List.length_append,p6 hm]; omega)),yv (by omega),ZZ L1 L2 L3 s d S hd w m e _ (by rw [Nat.add_mul,Nat.one_mul] at hm; omega) (by omega) (by rw [List.length_append,p6 hm]; omega)]
   simp [lU]
theorem bd (L1:List Int→List Int→Option (List Int×List Int)) (h1:∀ s d,nV s d→L1 s d=some (mR s d)) (L2:List Int→Option (Res (List Int×Option Nat×List Int))) (h2:∀ l,oO l→L2 l=some (tM l))
  (L3:List Int→List Int→Option (Int×Int)) (h3:∀ s d,nP s d→L3 s d=some (oE s d)) (s d:List Int) (h:ow s d):∃ N,tK L1 L2 L3 N s d=some (qZ s d):=by
 refine ⟨1001,?_⟩
 unfold tK qZ ay
 cases s with
 | nil=>rw [if_pos (by simp),h1 _ _ ⟨(yR h).1,(yR h).2.1⟩]; rfl
 | cons n t=>
   obtain ⟨w,hw,hl,n0,n1,hs,hdl⟩:=dz h
   obtain ⟨k,rfl⟩:=Int.eq_ofNat_of_zero_le n0
   rw [if_neg (by simp only [List.length_cons]; omega),h2 _ (yR h).1,Option.bind_some,aX (vN h).2.1]
   simp only [Res.on]
   rw [h3 _ _ ⟨h,_,_,rfl⟩,Option.bind_some,eG]
   by_cases hk:k=0
   ·subst hk
    rw [if_pos (by simp)]
    simp only
    have:=ZZ L1 L2 L3 (((0:Nat):Int) :: t) d (((0:Nat):Int) :: t) (yR h).2.1 0 0 1000 [] (by simp) (by omega) (by simp)
    rw [show 0+1+1000=1001 by omega] at this
    rw [yv (by omega)]
    exact this
   ·rw [if_neg (by omega)]
    simp only
    rw [yv (by omega),hw]
    have:=ZZ L1 L2 L3 ((k:Int) :: t) d ((k:Int) :: t) (yR h).2.1 w k (1000 - k) [] (by simpa using hdl) (by omega) (by simpa using hs)
    rw [show k+1+(1000 - k)=1001 by omega] at this
    rw [this]
    simp
def xR (l:List Int):Prop:=l.length ≤ 3
def yI (l:List Int):List Int:=l.reverse
theorem mE (l:List Int) (h:xR l):∃ N,yJ N l=some (yI l):=by
 refine ⟨3,?_⟩
 have w1:w64 1=1:=yv (by omega)
 have w0:w64 0=0:=yv (by omega)
 have w2:w64 2=2:=yv (by omega)
 have wm:w64 (-1)=-1:=yv (by omega)
 have t2:Int.toNat 2=2:=rfl
 unfold xR at h
 match l,h with
 | [],_=>simp [yJ,yE,yI,wm]
 | [a],_=>simp [yJ,yE,yI,w0]
 | [a,b],_=>simp [yJ,yE,yI,w0,w1,uM]
 | [a,b,c],_=>simp [yJ,yE,yI,w0,w1,w2,t2,uM]
 | _ :: _ :: _ :: _ :: _,h=>simp at h
def na (s d:List Int):Prop:=ww s d=true
def p9 (s d:List Int):Res (List Int×List Int):= .ok (jL s d)
theorem a8:∀ (s:List Nat) (i acc P:Nat),(∀ x ∈ s,0 < x)→acc < P→rU s (vV s i) acc < P * xn s
 | [],i,acc,P,_,h=>by simpa [rU,vV,xn] using h
 | a :: t,i,acc,P,hs,h=>by
   have ha:=hs a (by simp)
   have h1:acc * a+i % a < P * a:=by
    have:=Nat.mod_lt i ha
    have h2:(acc+1) * a ≤ P * a:=Nat.mul_le_mul_right a h
    rw [Nat.add_mul,Nat.one_mul] at h2
    omega
   have:=a8 t (i / a) (acc * a+i % a) (P * a) (fun x hx=>hs x (by simp [hx])) h1
   simp only [rU,vV,xn]
   rwa [← Nat.mul_assoc]
theorem bK {s:List Nat} (hs:∀ x ∈ s,0 < x) (i:Nat):oW s i < xn s:=by
 have:=a8 s i 0 1 hs (by omega)
 simpa [oW] using this
theorem nZ (i a:Nat) (ha:0 < a):(i % a+1 < a→(i+1) % a=i % a+1∧(i+1) / a=i / a)∧(¬ i % a+1 < a→(i+1) % a=0∧(i+1) / a=i / a+1):=by
 have h0:=Nat.div_add_mod i a
 have h1:=Nat.mod_lt i ha
 refine ⟨fun h=>?_,fun h=>?_⟩
 ·have e:i+1=a * (i / a)+(i % a+1):=by omega
  refine ⟨?_,?_⟩
  ·conv=>lhs; rw [e]
   rw [Nat.mul_add_mod,Nat.mod_eq_of_lt h]
  ·conv=>lhs; rw [e]
   rw [Nat.mul_add_div ha,Nat.div_eq_of_lt h]; omega
 ·have e:i+1=a * (i / a+1):=by rw [Nat.mul_add,Nat.mul_one]; omega
  refine ⟨?_,?_⟩
  ·conv=>lhs; rw [e]
   exact Nat.mul_mod_right _ _
  ·conv=>lhs; rw [e]
   exact Nat.mul_div_cancel_left _ ha
section
variable (L1:List Int→Option (List Int)) (L2:List Int→Option (List Int)) (L3:List Int→Option (Res (List Int×Option Nat×List Int)))
 (K:Int→Int→List Int→List Int→List Int→List Int→List Int→Int→Int→Int→Int→Int→Int→Option (Res (List Int×List Int)))
theorem Fs (m:Nat) (n x:Int) (s d S o q:List Int) (s0 s1 s2 a0 a1 a2 y:Int) (hy:S[2]? =some y):
  zU L1 L2 L3 K (m+1) 2 n x s d S o q s0 s1 s2 a0 a1 a2=if w64 (a2+1) < y then K n (w64 (x+1)) s d S o q s0 s1 s2 a0 a1 (w64 (a2+1)) else zU L1 L2 L3 K m 1 n x s d S o q s0 s1 s2 a0 a1 0:=by
 have hl:(2:Int) < S.length:=by
  have:2 < S.length:=by
   rcases Nat.lt_or_ge 2 S.length with h | h
   ·exact h
   ·rw [List.getElem?_eq_none h] at hy; cases hy
  omega
 have t:Int.toNat 2=2:=rfl
 have w:w64 1=1:=yv (by omega)
 rw [zU]
 simp [t,w,hl,hy]
theorem JB (m:Nat) (n x:Int) (s d S o q:List Int) (s0 s1 s2 a0 a1 a2 y:Int) (hy:S[1]? =some y):
  zU L1 L2 L3 K (m+1) 1 n x s d S o q s0 s1 s2 a0 a1 a2=if w64 (a1+1) < y then K n (w64 (x+1)) s d S o q s0 s1 s2 a0 (w64 (a1+1)) a2 else zU L1 L2 L3 K m 0 n x s d S o q s0 s1 s2 a0 0 a2:=by
 have hl:(1:Int) < S.length:=by
  have:1 < S.length:=by
   rcases Nat.lt_or_ge 1 S.length with h | h
   ·exact h
   ·rw [List.getElem?_eq_none h] at hy; cases hy
  omega
 have t:Int.toNat 1=1:=rfl
 have w:w64 0=0:=yv (by omega)
 rw [zU]
 simp [t,w,hl,hy]
theorem QM (m:Nat) (n x:Int) (s d S o q:List Int) (s0 s1 s2 a0 a1 a2 y:Int) (hy:S[0]? =some y):
  zU L1 L2 L3 K (m+1) 0 n x s d S o q s0 s1 s2 a0 a1 a2=if w64 (a0+1) < y then K n (w64 (x+1)) s d S o q s0 s1 s2 (w64 (a0+1)) a1 a2 else zU L1 L2 L3 K m (-1) n x s d S o q s0 s1 s2 0 a1 a2:=by
 have hl:(0:Int) < S.length:=by
  have:0 < S.length:=by
   rcases Nat.lt_or_ge 0 S.length with h | h
   ·exact h
   ·rw [List.getElem?_eq_none h] at hy; cases hy
  omega
 have t:Int.toNat 0=0:=rfl
 have w:w64 (-1)=-1:=yv (by omega)
 have hl':0 < S.length:=by omega
 rw [zU]
 have hy2:S[0]=y:=by
  have:=List.getElem?_eq_getElem hl'
  rw [hy] at this
  exact (Option.some.inj this).symm
 simp [t,w,hl',hy,hy2]
theorem WZ (m:Nat) (n x:Int) (s d S o q:List Int) (s0 s1 s2 a0 a1 a2:Int):
  zU L1 L2 L3 K (m+1) (-1) n x s d S o q s0 s1 s2 a0 a1 a2=K n (w64 (x+1)) s d S o q s0 s1 s2 a0 a1 a2:=by
 rw [zU,if_neg (by omega)]
theorem PL (N m:Nat) (p n x r:Int) (s d S o q:List Int) (s0 s1 s2 a0 a1 a2:Int) (hr:0 < r):
  zM L1 L2 L3 N K (m+1) p n x r 0 s d S o q s0 s1 s2 a0 a1 a2=zM L1 L2 L3 N K m (w64 (p+w64 (a0 * s0))) n x r 1 s d S o q s0 s1 s2 a0 a1 a2:=by
 have t:Int.toNat 0=0:=rfl
 have w:w64 1=1:=yv (by omega)
 rw [zM]
 simp [t,w,hr]
theorem LJ (N m:Nat) (p n x r:Int) (s d S o q:List Int) (s0 s1 s2 a0 a1 a2:Int) (hr:1 < r):
  zM L1 L2 L3 N K (m+1) p n x r 1 s d S o q s0 s1 s2 a0 a1 a2=zM L1 L2 L3 N K m (w64 (p+w64 (a1 * s1))) n x r 2 s d S o q s0 s1 s2 a0 a1 a2:=by
 have t:Int.toNat 1=1:=rfl
 have w:w64 2=2:=yv (by omega)
 rw [zM]
 simp [t,w,hr]
theorem GG (N m:Nat) (p n x r:Int) (s d S o q:List Int) (s0 s1 s2 a0 a1 a2:Int) (hr:2 < r):
  zM L1 L2 L3 N K (m+1) p n x r 2 s d S o q s0 s1 s2 a0 a1 a2=zM L1 L2 L3 N K m (w64 (p+w64 (a2 * s2))) n x r 3 s d S o q s0 s1 s2 a0 a1 a2:=by
 have t:Int.toNat 2=2:=rfl
 have w:w64 3=3:=yv (by omega)
 rw [zM]
 simp [t,w,hr]
theorem d6 (N m:Nat) (p n x r k:Int) (s d S o q:List Int) (s0 s1 s2 a0 a1 a2 y:Int) (hr:¬ k < r) (hy:idx d p=some y) (hq:q.length ≤ 1000):
  zM L1 L2 L3 N K (m+1) p n x r k s d S o q s0 s1 s2 a0 a1 a2=zU L1 L2 L3 K N (w64 ((S.length:Int) - 1)) n x s d S o (q++[y]) s0 s1 s2 a0 a1 a2:=by
 rw [zM,if_neg hr,hy,Option.bind_some,if_pos (vL (by unfold small; simp only [List.length_append,List.length_singleton]; omega))]
end
theorem ma {α:Type} {p:Prop} [Decidable p] {x y z:α} (h:y=z):(if p then x else y)=if p then x else z:=by rw [h]
theorem fL {x y:Nat} (h:x+y ≤ 1000000):w64 ((x:Int)+(y:Int))=((x+y:Nat):Int):=by
 rw [show (x:Int)+(y:Int)=((x+y:Nat):Int) by simp]; exact qN h
theorem lr {x:Nat} (h:x ≤ 1000):w64 ((x:Int)+1)=((x+1:Nat):Int):=fL (x:=x) (y:=1) (by omega)
theorem lp {x y:Nat}:((x:Int) < (y:Int))=(x < y):=by simp
section
variable (L1:List Int→Option (List Int)) (L2:List Int→Option (List Int)) (L3:List Int→Option (Res (List Int×Option Nat×List Int)))
 (K:Int→Int→List Int→List Int→List Int→List Int→List Int→Int→Int→Int→Int→Int→Int→Option (Res (List Int×List Int)))
theorem Lz (n x:Int) (s d o q:List Int) (a b c z0 z1 z2:Nat) (y:Int) (hq:q.length ≤ 1000) (k0:z0 ≤ 1000) (k1:z1 ≤ 1000) (k2:z2 ≤ 1000) (hs:z0+z1 * c+z2 * (c * b) ≤ 1000) (hy:idx d ((z0+z1 * c+z2 * (c * b):Nat):Int)=some y):
  zM L1 L2 L3 1001 K 1001 0 n x 3 0 s d (zV [c,b,a]) o q 1 (c:Int) ((c * b:Nat):Int) (z0:Int) (z1:Int) (z2:Int)=
   if z2+1 < a then K n (w64 (x+1)) s d (zV [c,b,a]) o (q++[y]) 1 (c:Int) ((c * b:Nat):Int) (z0:Int) (z1:Int) ((z2+1:Nat):Int)
   else if z1+1 < b then K n (w64 (x+1)) s d (zV [c,b,a]) o (q++[y]) 1 (c:Int) ((c * b:Nat):Int) (z0:Int) ((z1+1:Nat):Int) 0
   else if z0+1 < c then K n (w64 (x+1)) s d (zV [c,b,a]) o (q++[y]) 1 (c:Int) ((c * b:Nat):Int) ((z0+1:Nat):Int) 0 0
   else K n (w64 (x+1)) s d (zV [c,b,a]) o (q++[y]) 1 (c:Int) ((c * b:Nat):Int) 0 0 0:=by
 have e0:w64 (0+w64 ((z0:Int) * 1))=(z0:Int):=by rw [Int.mul_one,qN (by omega),Int.zero_add,qN (by omega)]
 refine (PL L1 L2 L3 K 1001 1000 _ _ _ _ _ _ _ _ _ _ _ _ _ _ _ (by omega)).trans ?_
 rw [e0]
 refine (LJ L1 L2 L3 K 1001 999 _ _ _ _ _ _ _ _ _ _ _ _ _ _ _ (by omega)).trans ?_
 rw [fH (by omega),fL (by omega)]
 refine (GG L1 L2 L3 K 1001 998 _ _ _ _ _ _ _ _ _ _ _ _ _ _ _ (by omega)).trans ?_
 rw [fH (by omega),fL (by omega)]
 refine (d6 L1 L2 L3 K 1001 997 _ _ _ _ _ _ _ _ _ _ _ _ _ _ _ _ _ (by omega) hy hq).trans ?_
 rw [show w64 ((List.length (zV [c,b,a]):Int) - 1)=2 from yv (n:=2) (by omega)]
 refine (Fs L1 L2 L3 K 1000 _ _ _ _ _ _ _ _ _ _ _ _ _ (a:Int) rfl).trans ?_
 rw [lr k2]
 simp only [lp]
 refine ma ?_
 refine (JB L1 L2 L3 K 999 _ _ _ _ _ _ _ _ _ _ _ _ _ (b:Int) rfl).trans ?_
 rw [lr k1]
 simp only [lp]
 refine ma ?_
 refine (QM L1 L2 L3 K 998 _ _ _ _ _ _ _ _ _ _ _ _ _ (c:Int) rfl).trans ?_
 rw [lr k0]
 simp only [lp]
 refine ma ?_
 exact WZ L1 L2 L3 K 997 _ _ _ _ _ _ _ _ _ _ _ _ _
theorem KM (n x:Int) (s d o q:List Int) (a b z0 z1:Nat) (y:Int) (hq:q.length ≤ 1000) (k0:z0 ≤ 1000) (k1:z1 ≤ 1000) (hs:z0+z1 * b ≤ 1000) (hy:idx d ((z0+z1 * b:Nat):Int)=some y):
  zM L1 L2 L3 1001 K 1001 0 n x 2 0 s d (zV [b,a]) o q 1 (b:Int) 0 (z0:Int) (z1:Int) 0=
   if z1+1 < a then K n (w64 (x+1)) s d (zV [b,a]) o (q++[y]) 1 (b:Int) 0 (z0:Int) ((z1+1:Nat):Int) 0
   else if z0+1 < b then K n (w64 (x+1)) s d (zV [b,a]) o (q++[y]) 1 (b:Int) 0 ((z0+1:Nat):Int) 0 0
   else K n (w64 (x+1)) s d (zV [b,a]) o (q++[y]) 1 (b:Int) 0 0 0 0:=by
 have e0:w64 (0+w64 ((z0:Int) * 1))=(z0:Int):=by rw [Int.mul_one,qN (by omega),Int.zero_add,qN (by omega)]
 refine (PL L1 L2 L3 K 1001 1000 _ _ _ _ _ _ _ _ _ _ _ _ _ _ _ (by omega)).trans ?_
 rw [e0]
 refine (LJ L1 L2 L3 K 1001 999 _ _ _ _ _ _ _ _ _ _ _ _ _ _ _ (by omega)).trans ?_
 rw [fH (by omega),fL (by omega)]
 refine (d6 L1 L2 L3 K 1001 998 _ _ _ _ _ _ _ _ _ _ _ _ _ _ _ _ _ (by omega) hy hq).trans ?_
 rw [show w64 ((List.length (zV [b,a]):Int) - 1)=1 from yv (n:=1) (by omega)]
 refine (JB L1 L2 L3 K 1000 _ _ _ _ _ _ _ _ _ _ _ _ _ (a:Int) rfl).trans ?_
 rw [lr k1]
 simp only [lp]
 refine ma ?_
 refine (QM L1 L2 L3 K 999 _ _ _ _ _ _ _ _ _ _ _ _ _ (b:Int) rfl).trans ?_
 rw [lr k0]
 simp only [lp]
 refine ma ?_
 exact WZ L1 L2 L3 K 998 _ _ _ _ _ _ _ _ _ _ _ _ _
theorem KR (n x:Int) (s d o q:List Int) (a z0:Nat) (y:Int) (hq:q.length ≤ 1000) (k0:z0 ≤ 1000) (hy:idx d (z0:Int)=some y):
  zM L1 L2 L3 1001 K 1001 0 n x 1 0 s d (zV [a]) o q 1 0 0 (z0:Int) 0 0=
   if z0+1 < a then K n (w64 (x+1)) s d (zV [a]) o (q++[y]) 1 0 0 ((z0+1:Nat):Int) 0 0
   else K n (w64 (x+1)) s d (zV [a]) o (q++[y]) 1 0 0 0 0 0:=by
 have e0:w64 (0+w64 ((z0:Int) * 1))=(z0:Int):=by rw [Int.mul_one,qN (by omega),Int.zero_add,qN (by omega)]
 refine (PL L1 L2 L3 K 1001 1000 _ _ _ _ _ _ _ _ _ _ _ _ _ _ _ (by omega)).trans ?_
 rw [e0]
 refine (d6 L1 L2 L3 K 1001 999 _ _ _ _ _ _ _ _ _ _ _ _ _ _ _ _ _ (by omega) hy hq).trans ?_
 rw [show w64 ((List.length (zV [a]):Int) - 1)=0 from yv (n:=0) (by omega)]
 refine (QM L1 L2 L3 K 1000 _ _ _ _ _ _ _ _ _ _ _ _ _ (a:Int) rfl).trans ?_
 rw [lr k0]
 simp only [lp]
 refine ma ?_
 exact WZ L1 L2 L3 K 999 _ _ _ _ _ _ _ _ _ _ _ _ _
theorem Ji (n x:Int) (s d o q:List Int) (y:Int) (hq:q.length ≤ 1000) (hy:idx d 0=some y):
  zM L1 L2 L3 1001 K 1001 0 n x 0 0 s d (zV []) o q 0 0 0 0 0 0=K n (w64 (x+1)) s d (zV []) o (q++[y]) 0 0 0 0 0 0:=by
 refine (d6 L1 L2 L3 K 1001 1000 _ _ _ _ _ _ _ _ _ _ _ _ _ _ _ _ _ (by omega) hy hq).trans ?_
 rw [show w64 ((List.length (zV []):Int) - 1)=-1 from (yv (n:=(List.length (zV []):Int) - 1) (by simp [zV])).trans rfl]
 exact WZ L1 L2 L3 K 1000 _ _ _ _ _ _ _ _ _ _ _ _ _
end
theorem jJ {d:List Int} {p:Nat} (h:p < d.length):idx d (p:Int)=some (d.getD p 0):=by
 rw [no,List.getElem?_eq_getElem h,List.getD_eq_getElem?_getD,List.getElem?_eq_getElem h]; rfl
section
variable (L1:List Int→Option (List Int)) (L2:List Int→Option (List Int)) (L3:List Int→Option (Res (List Int×Option Nat×List Int))) (o:List Int) (d:List Int)
theorem OE (a b c:Nat) (hd:d.length ≤ 1000) (hl:d.length=xn [a,b,c]):∀ (m j e:Nat),j+m=d.length→
  yg L1 L2 L3 1001 (m+1+e) (d.length:Int) (j:Int) (zV [a,b,c]) d (zV [c,b,a]) o (rD [a,b,c] d j) 1 (c:Int) ((c * b:Nat):Int) ((j / a / b % c:Nat):Int) ((j / a % b:Nat):Int) ((j % a:Nat):Int)=some (.ok (o,rD [a,b,c] d d.length))
 | 0,j,e,hj=>by
   rw [nL]
   simp only [yg]
   obtain rfl:j=d.length:=by omega
   rw [if_neg (by omega)]
 | m+1,j,e,hj=>by
   have hp0:0 < xn [a,b,c]:=by omega
   have ih:=OE a b c hd hl m (j+1) e (by omega)
   rw [mD] at ih
   have hlt:=bK (vf hp0) j
   have ha:=vf hp0 a (by simp)
   have hb:=vf hp0 b (by simp)
   have hc:=vf hp0 c (by simp)
   have ka:=nl hp0 a (by simp)
   have kb:=nl hp0 b (by simp)
   have kc:=nl hp0 c (by simp)
   have hF:j / a / b % c+(j / a % b) * c+(j % a) * (c * b)=oW [a,b,c] j:=by
    simp only [oW,rU,vV,Nat.zero_mul,Nat.zero_add]
    rw [Nat.add_mul,Nat.mul_assoc,Nat.mul_comm b c]; omega
   have s0:=nZ j a ha
   have s1:=nZ (j / a) b hb
   have s2:=nZ (j / a / b) c hc
   have m0:=Nat.mod_lt j ha
   have m1:=Nat.mod_lt (j / a) hb
   have m2:=Nat.mod_lt (j / a / b) hc
   have hx:=jJ (d:=d) (p:=oW [a,b,c] j) (by omega)
   rw [← hF] at hx hlt
   rw [yV]
   simp only [yg]
   rw [if_pos (by omega)]
   refine (Lz L1 L2 L3 _ _ _ _ _ _ _ a b c _ _ _ _ (by rw [lA]; omega) (by omega) (by omega) (by omega) (by omega) hx).trans ?_
   rw [wT (show j < d.length by omega) (by rw [wc]; omega),hF]
   by_cases c0:j % a+1 < a
   ·rw [if_pos c0]
    rw [(s0.1 c0).1,(s0.1 c0).2] at ih
    exact ih
   ·rw [if_neg c0]
    rw [(s0.2 c0).1,(s0.2 c0).2] at ih
    by_cases c1:j / a % b+1 < b
    ·rw [if_pos c1]
     rw [(s1.1 c1).1,(s1.1 c1).2] at ih
     exact ih
    ·rw [if_neg c1]
     rw [(s1.2 c1).1,(s1.2 c1).2] at ih
     by_cases c2:j / a / b % c+1 < c
     ·rw [if_pos c2]
      rw [(s2.1 c2).1] at ih
      exact ih
     ·rw [if_neg c2]
      rw [(s2.2 c2).1] at ih
      exact ih
theorem OL (a b:Nat) (hd:d.length ≤ 1000) (hl:d.length=xn [a,b]):∀ (m j e:Nat),j+m=d.length→
  yg L1 L2 L3 1001 (m+1+e) (d.length:Int) (j:Int) (zV [a,b]) d (zV [b,a]) o (rD [a,b] d j) 1 (b:Int) 0 ((j / a % b:Nat):Int) ((j % a:Nat):Int) 0=some (.ok (o,rD [a,b] d d.length))
 | 0,j,e,hj=>by
   rw [nL]
   simp only [yg]
   obtain rfl:j=d.length:=by omega
   rw [if_neg (by omega)]
 | m+1,j,e,hj=>by
   have hp0:0 < xn [a,b]:=by omega
   have ih:=OL a b hd hl m (j+1) e (by omega)
   rw [mD] at ih
   have hlt:=bK (vf hp0) j
   have ha:=vf hp0 a (by simp)
   have hb:=vf hp0 b (by simp)
   have ka:=nl hp0 a (by simp)
   have kb:=nl hp0 b (by simp)
   have hF:j / a % b+(j % a) * b=oW [a,b] j:=by
    simp only [oW,rU,vV,Nat.zero_mul,Nat.zero_add]; omega
   have s0:=nZ j a ha
   have s1:=nZ (j / a) b hb
   have m0:=Nat.mod_lt j ha
   have m1:=Nat.mod_lt (j / a) hb
   have hx:=jJ (d:=d) (p:=oW [a,b] j) (by omega)
   rw [← hF] at hx hlt
   rw [yV]
   simp only [yg]
   rw [if_pos (by omega)]
   refine (KM L1 L2 L3 _ _ _ _ _ _ _ a b _ _ _ (by rw [lA]; omega) (by omega) (by omega) (by omega) hx).trans ?_
   rw [wT (show j < d.length by omega) (by rw [wc]; omega),hF]
   by_cases c0:j % a+1 < a
   ·rw [if_pos c0]
    rw [(s0.1 c0).1,(s0.1 c0).2] at ih
    exact ih
   ·rw [if_neg c0]
    rw [(s0.2 c0).1,(s0.2 c0).2] at ih
    by_cases c1:j / a % b+1 < b
    ·rw [if_pos c1]
     rw [(s1.1 c1).1] at ih
     exact ih
    ·rw [if_neg c1]
     rw [(s1.2 c1).1] at ih
     exact ih
theorem OQ (a:Nat) (hd:d.length ≤ 1000) (hl:d.length=xn [a]):∀ (m j e:Nat),j+m=d.length→
  yg L1 L2 L3 1001 (m+1+e) (d.length:Int) (j:Int) (zV [a]) d (zV [a]) o (rD [a] d j) 1 0 0 ((j % a:Nat):Int) 0 0=some (.ok (o,rD [a] d d.length))
 | 0,j,e,hj=>by
   rw [nL]
   simp only [yg]
   obtain rfl:j=d.length:=by omega
   rw [if_neg (by omega)]
 | m+1,j,e,hj=>by
   have hp0:0 < xn [a]:=by omega
   have ih:=OQ a hd hl m (j+1) e (by omega)
   rw [mD] at ih
   have hlt:=bK (vf hp0) j
   have ha:=vf hp0 a (by simp)
   have ka:=nl hp0 a (by simp)
   have hF:j % a=oW [a] j:=by simp [oW,rU,vV]
   have s0:=nZ j a ha
   have m0:=Nat.mod_lt j ha
   have hx:=jJ (d:=d) (p:=oW [a] j) (by omega)
   rw [← hF] at hx hlt
   rw [yV]
   simp only [yg]
   rw [if_pos (by omega)]
   refine (KR L1 L2 L3 _ _ _ _ _ _ _ a _ _ (by rw [lA]; omega) (by omega) hx).trans ?_
   rw [wT (show j < d.length by omega) (by rw [wc]; omega),hF]
   by_cases c0:oW [a] j+1 < a
   ·rw [if_pos c0]
    rw [← hF] at c0 ⊢
    rw [(s0.1 c0).1,← hF] at ih
    exact ih
   ·rw [if_neg c0]
    rw [← hF] at c0 ⊢
    rw [(s0.2 c0).1,← hF] at ih
    exact ih
theorem OP (hd:d.length ≤ 1000) (hl:d.length=xn []):∀ (m j e:Nat),j+m=d.length→
  yg L1 L2 L3 1001 (m+1+e) (d.length:Int) (j:Int) (zV []) d (zV []) o (rD [] d j) 0 0 0 0 0 0=some (.ok (o,rD [] d d.length))
 | 0,j,e,hj=>by
   rw [nL]
   simp only [yg]
   obtain rfl:j=d.length:=by omega
   rw [if_neg (by omega)]
 | m+1,j,e,hj=>by
   have ih:=OP hd hl m (j+1) e (by omega)
   rw [mD] at ih
   simp only [xn] at hl
   have hx:=jJ (d:=d) (p:=0) (by omega)
   rw [yV]
   simp only [yg]
   rw [if_pos (by omega)]
   refine (Ji L1 L2 L3 _ _ _ _ _ _ _ _ (by rw [lA]; omega) hx).trans ?_
   rw [wT (show j < d.length by omega) (by rw [wc]; omega)]
   exact ih
end
theorem HD (a b c:Int):c * (b * a)=a * (b * c):=by rw [Int.mul_comm b a,Int.mul_left_comm,Int.mul_comm c b]
theorem PZ (l:List Nat) (h:l.length ≤ 3):xO (zV l).reverse=xO (zV l):=by
 match l,h with
 | [],_=>rfl
 | [a],_=>rfl
 | [a,b],_=>simp [zV,xO,Int.mul_comm]
 | [a,b,c],_=>
   simp only [zV,xO,List.map_cons,List.map_nil,List.reverse_cons,List.reverse_nil,List.nil_append,List.cons_append,List.foldr_cons,List.foldr_nil,Int.mul_one]
   exact HD _ _ _
 | _ :: _ :: _ :: _ :: _,h=>simp at h
theorem Qc {s:List Int} {T:List Nat} (hs:s=zV T) (h:uk s=true):uk s.reverse=true:=by
 obtain ⟨h1,h2,h3⟩:=(rt s).1 h
 refine (rt _).2 ⟨by simpa using h1,by simpa using h2,?_⟩
 subst hs
 rw [PZ T (by rw [nb] at h1; exact h1)]; exact h3
theorem bP (L1:List Int→Option (List Int)) (h1:∀ l,xf l→L1 l=some (yy l)) (L2:List Int→Option (List Int)) (h2:∀ l,xR l→L2 l=some (yI l))
  (L3:List Int→Option (Res (List Int×Option Nat×List Int))) (h3:∀ l,oO l→L3 l=some (tM l)) (s d:List Int) (h:na s d):∃ N,su L1 L2 L3 N s d=some (p9 s d):=by
 obtain ⟨T,hT,h3',hl,hd⟩:=aW h
 have hf:=Qc hT (vN h).2.1
 have hb:∀ x ∈ T,x ≤ 1000:=by
  intro x hx
  have h2':=((rt s).1 (vN h).2.1).2.1
  rw [hT,List.all_eq_true] at h2'
  have:=h2' (x:Int) (List.mem_map.2 ⟨x,hx,rfl⟩)
  simp only [tO,Bool.and_eq_true,decide_eq_true_eq] at this
  omega
 refine ⟨1001,?_⟩
 unfold su p9 jL
 rw [h1 _ (yR h).1]
 simp only [Option.bind_some,yy]
 rw [h2 _ (yR h).2.2.1]
 simp only [Option.bind_some,yI]
 rw [h3 _ (by show small _; unfold small; rw [List.length_reverse]; have:=(yR h).2.2.1; omega),Option.bind_some,aX hf]
 simp only [Res.on]
 subst hT
 rw [kW]
 match T,h3',hl,hb with
 | [],_,hl,_=>
   have:=OP L1 L2 L3 (zV []).reverse d hd hl d.length 0 (1000 - d.length) (by omega)
   rw [show d.length+1+(1000 - d.length)=1001 by omega] at this
   rw [show w64 ((List.length (zV []):Int) - 1)=-1 from (yv (n:=(List.length (zV []):Int) - 1) (by simp [zV])).trans rfl]
   exact (gn L1 L2 L3 1001 1000 _ _ _ _ _ _ _ _ _ _ _ _).trans this
 | [a],_,hl,_=>
   have:=OQ L1 L2 L3 (zV [a]).reverse d a hd hl d.length 0 (1000 - d.length) (by omega)
   rw [show d.length+1+(1000 - d.length)=1001 by omega] at this
   simp only [Nat.zero_mod] at this
   rw [show w64 ((List.length (zV [a]):Int) - 1)=0 from wn 0 (by omega)]
   exact (Nm L1 L2 L3 a d _).trans this
 | [a,b],_,hl,hb=>
   have:=OL L1 L2 L3 (zV [a,b]).reverse d a b hd hl d.length 0 (1000 - d.length) (by omega)
   rw [show d.length+1+(1000 - d.length)=1001 by omega] at this
   simp only [Nat.zero_mod,Nat.zero_div] at this
   rw [show w64 ((List.length (zV [a,b]):Int) - 1)=1 from wn 1 (by omega)]
   exact (NB L1 L2 L3 a b (hb b (by simp)) d _).trans this
 | [a,b,c],_,hl,hb=>
   have:=OE L1 L2 L3 (zV [a,b,c]).reverse d a b c hd hl d.length 0 (1000 - d.length) (by omega)
   rw [show d.length+1+(1000 - d.length)=1001 by omega] at this
   simp only [Nat.zero_mod,Nat.zero_div] at this
   rw [show w64 ((List.length (zV [a,b,c]):Int) - 1)=2 from wn 2 (by omega)]
   exact (MU L1 L2 L3 a b c (hb b (by simp)) (hb c (by simp)) d _).trans this
 | _ :: _ :: _ :: _ :: _,h,_,_=>simp at h
def kx (s d:List Int):Prop:=d.length ≤ 1000
def mK (s d:List Int):Res (List Int×List Int):=Vu (gz s d)
def Lo (a:List Int×List Int):Prop:=a.2.length ≤ 1000
def ox (x:Int):Prop:=True
def ny (x:Int):List Int×List Int:=([],[x])
theorem bg (x:Int) (h:ox x):∃ N,pc N x=some (ny x):=⟨0,rfl⟩
def nj (s d:List Int):Prop:=True
def pZ (s d:List Int):List Int×List Int:=([],[gA s])
theorem ah (L:Int→Option (List Int×List Int)) (hL:∀ x,ox x→L x=some (ny x)) (s d:List Int) (h:nj s d):∃ N,ri L N s d=some (pZ s d):=by
 refine ⟨0,?_⟩
 unfold ri pZ gA
 cases s with
 | nil=>
   rw [if_pos (by simp),hL _ trivial]; rfl
 | cons n t=>
   rw [if_neg (by simp only [List.length_cons]; omega),if_neg (by simp),show idx (n :: t) 0=some n from rfl,Option.bind_some,hL _ trivial]; rfl
def nf (s d:List Int):Prop:=small s∧small d
def sN (s d:List Int):Bool:=ww s d
theorem iC (L:List Int→Option (Int×Bool)) (l:List Int) (hl:small l):∀ (r:List Int) (j e:Nat),l.drop j=r→wQ L (r.length+1+e) l l.length j=some (r.all lK)
 | [],j,e,hd=>by
   rw [show ([]:List Int).length+1+e=e+1 by simp; omega]
   simp only [wQ]
   rw [if_neg (pI hd)]; rfl
 | x :: r,j,e,hd=>by
   obtain ⟨h1,h2,h3,h4,h5,h6⟩:=u4 hd
   have hb:l.length ≤ big:=by unfold small at hl; rw [wc]; omega
   rw [show (x :: r).length+1+e=(r.length+1+e)+1 by simp; omega]
   simp only [wQ]
   rw [if_pos h2,h3]
   simp only [Option.bind_some,wT h1 hb,List.all_cons,lK]
   by_cases c1:x < -3000000000
   ·rw [if_pos c1]; simp; omega
   ·rw [if_neg c1]
    by_cases c2:3000000000 < x
    ·rw [if_pos c2]; simp; omega
    ·rw [if_neg c2,iC L l hl r (j+1) e h5]
     have e1:decide (-3000000000 ≤ x)=true:=by simp; omega
     have e2:decide (x ≤ 3000000000)=true:=by simp; omega
     rw [e1,e2]; simp
theorem ar (L:List Int→Option (Int×Bool)) (hL:∀ l,rz l→L l=some (xY l)) (s d:List Int) (h:nf s d):
  ∃ N,sn L N s d=some (sN s d):=by
 refine ⟨d.length+1,?_⟩
 unfold sn sN ww
 rw [hL _ h.1]
 simp only [Option.bind_some]
 obtain ⟨e1,e2⟩:=lM s
 rw [e1]
 have q:=iC L d h.2 d 0 0 rfl
 rw [show d.length+1+0=d.length+1 by rfl,show ((0:Nat):Int)=0 by rfl] at q
 rw [q]
 cases hf:uk s with
 | false=>simp
 | true=>
   rw [e2 hf]
   by_cases c:s.foldl vJ 1=(d.length:Int)
   ·simp [c]
   ·have c':¬ (d.length:Int)=s.foldl vJ 1:=fun q=>c q.symm
    simp [c,c']
def tA (x a0:Int) (s d:List Int):Prop:=True
def rR (x a0:Int) (s d:List Int):Int:=x
theorem Zj (x a0:Int) (s d:List Int) (h:tA x a0 s d):∃ N,oT N x a0 s d=some (rR x a0 s d):=⟨0,rfl⟩
def mc (f:Int) (s d:List Int):Prop:=small s∧small d
def pv (f:Int) (s d:List Int):List Int×List Int×Int:=xl f s d
theorem WL (L:D→Int→List Int→List Int→Option Int) (h:∀ x a s d,tA x a s d→L (fp x) a s d=some (rR x a s d)) (X:Except Int (List Int×List Int)) (a:Int):
  ((some (Vu X)).bind fun y0=>y0.on (fun y1=>some (y1.1,y1.2,(0:Int))) (fun y1=>(L y1 a [] []).bind fun y2=>some ([],[],y2)))=some (tri X):=by
 cases X with
 | ok p=>rfl
 | error c=>
   simp only [Option.bind_some,Vu,SC]
   rw [h _ _ _ _ trivial]; rfl
theorem YK (L1:List Int→List Int→Option (Res (List Int×List Int))) (h1:∀ s d,oY s d→L1 s d=some (pY s d))
  (L2:List Int→List Int→Option (List Int×List Int)) (h2:∀ s d,oZ s d→L2 s d=some (ol s d))
  (L3:List Int→List Int→Option (List Int×List Int)) (h3:∀ s d,nd s d→L3 s d=some (pR s d))
  (L4:List Int→List Int→Option (Res (List Int×List Int))) (h4:∀ s d,ow s d→L4 s d=some (qZ s d))
  (L5:List Int→List Int→Option (Res (List Int×List Int))) (h5:∀ s d,na s d→L5 s d=some (p9 s d))
  (L6:List Int→List Int→Option (Res (List Int×List Int))) (h6:∀ s d,kx s d→L6 s d=some (mK s d))
  (L7:List Int→List Int→Option (List Int×List Int)) (h7:∀ s d,nj s d→L7 s d=some (pZ s d))
  (L8:List Int→List Int→Option Bool) (h8:∀ s d,nf s d→L8 s d=some (sN s d))
  (L9:D→Int→List Int→List Int→Option Int) (h9:∀ x a s d,tA x a s d→L9 (fp x) a s d=some (rR x a s d))
  (f:Int) (s d:List Int) (h:mc f s d):∃ N,pj L1 L2 L3 L4 L5 L6 L7 L8 L9 N f s d=some (pv f s d):=by
 obtain ⟨ss,sd⟩:=h
 refine ⟨0,?_⟩
 unfold pj pv xl
 by_cases c1:f < 1
 ·rw [if_pos c1,if_neg (fun q=>by have:=q.1.1; omega)]
 rw [if_neg c1]
 by_cases c2:7 < f
 ·rw [if_pos c2,if_neg (fun q=>by have:=q.1.2; omega)]
 rw [if_neg c2,h8 _ _ ⟨ss,sd⟩]
 simp only [Option.bind_some,sN]
 cases ha:ww s d with
 | false=>rw [if_pos rfl,if_neg (fun q=>by cases q.2)]
 | true=>
 rw [if_neg (by simp),if_pos (show (1 ≤ f∧f ≤ 7)∧true=true from ⟨⟨by omega,by omega⟩,rfl⟩)]
 unfold p8
 rw [if_pos (by omega),if_neg (by omega)]
 have hf:f=1 ∨ f=2 ∨ f=3 ∨ f=4 ∨ f=5 ∨ f=6 ∨ f=7:=by omega
 rcases hf with rfl | rfl | rfl | rfl | rfl | rfl | rfl
 ·rw [if_pos (by decide),h1 _ _ ha]; exact WL L9 h9 _ _
 ·rw [if_neg (by decide),if_pos (by decide),h2 _ _ ss]; rfl
 ·rw [if_neg (by decide),if_neg (by decide),if_pos (by decide),h3 _ _ ⟨ss,sd⟩]; rfl
 ·rw [if_neg (by decide),if_neg (by decide),if_neg (by decide),if_pos (by decide),h4 _ _ ha]; rfl
 ·rw [if_neg (by decide),if_neg (by decide),if_neg (by decide),if_neg (by decide),if_pos (by decide),h5 _ _ ha]; rfl
 ·rw [if_neg (by decide),if_neg (by decide),if_neg (by decide),if_neg (by decide),if_neg (by decide),if_pos (by decide),h6 _ _ (yR ha).2.2.2.1]; exact WL L9 h9 _ _
 ·rw [if_neg (by decide),if_neg (by decide),if_neg (by decide),if_neg (by decide),if_neg (by decide),if_neg (by decide),if_pos (by decide),h7 _ _ trivial]; rfl
def nz (a b:List Int):Prop:=small a
def qf (a b:List Int):Bool:=decide (a=b)
theorem Z3 (a b:List Int) (ha:small a) (hab:a.length=b.length):∀ (r t:List Int) (j e:Nat),a.drop j=r→b.drop j=t→vA (r.length+1+e) a b j=some (decide (r=t))
 | [],t,j,e,hd,hd'=>by
   have h:=pI hd
   rw [show ([]:List Int).length+1+e=e+1 by simp; omega]
   simp only [vA]
   have:t=[]:=by rw [← hd']; exact List.drop_eq_nil_of_le (by omega)
   rw [if_neg h,this]; rfl
 | x :: r,t,j,e,hd,hd'=>by
   obtain ⟨h1,h2,h3,h4,h5,h6⟩:=u4 hd
   have hb:a.length ≤ big:=by unfold small at ha; rw [wc]; omega
   cases t with
   | nil=>have:=pI hd'; omega
   | cons y t=>
     obtain ⟨g1,g2,g3,g4,g5,g6⟩:=u4 hd'
     rw [show (x :: r).length+1+e=(r.length+1+e)+1 by simp; omega]
     simp only [vA]
     rw [if_pos h2,h3,g3]
     simp only [Option.bind_some]
     rw [wT h1 hb,Z3 a b ha hab r t (j+1) e h5 g5]
     by_cases c:x=y
     ·rw [if_pos c]; simp [c]
     ·rw [if_neg c]; simp [c]
theorem Zy (a b:List Int) (h:nz a b):∃ N,qz N a b=some (qf a b):=by
 refine ⟨a.length+1,?_⟩
 unfold qz qf
 by_cases c:(a.length:Int)=b.length
 ·rw [if_pos c]
  exact Z3 a b h (by omega) a b 0 0 rfl rfl
 ·rw [if_neg c]
  have:¬ a=b:=by rintro rfl; exact c rfl
  simp [this]
def nh (s d s' d':List Int):Prop:=small s∧small d
def uy (s d s' d':List Int):Bool:=decide (s=s')&&decide (d=d')
theorem bx (L:List Int→List Int→Option Bool) (hL:∀ a b,nz a b→L a b=some (qf a b)) (s d s' d':List Int) (h:nh s d s' d'):
  ∃ N,sE L N s d s' d'=some (uy s d s' d'):=by
 refine ⟨0,?_⟩
 unfold sE uy
 rw [hL _ _ h.1,hL _ _ h.2]
 simp only [Option.bind_some,qf]
 by_cases c:s=s' <;> by_cases c':d=d' <;> simp [c,c']
def ou (l:List Int) (k:Int):Prop:=small l∧0 ≤ k∧k ≤ 16777216
def vn (k:Int):Nat→List Int
 | 0=>[]
 | n+1=>k :: vn (k+1) n
def tz (l:List Int) (k:Int):Int×List Int:=(k+l.length,vn k l.length)
theorem c7 (n:Nat) (hn:n ≤ 1048576):∀ (m j e:Nat) (k:Int) (z y:List Int),j+m=n→z.length=n→0 ≤ k→k+m ≤ 33554432→z.take j=y→wA (m+1+e) k j z=some (k+m,y++vn k m)
 | 0,j,e,k,z,y,hj,hz,h0,h1,ht=>by
   rw [show 0+1+e=e+1 by omega]
   simp only [wA]
   rw [if_neg (by omega)]
   have:z=y:=by rw [← ht,List.take_of_length_le (by omega)]
   simp [vn,this]
 | m+1,j,e,k,z,y,hj,hz,h0,h1,ht=>by
   rw [show m+1+1+e=(m+1+e)+1 by omega]
   simp only [wA]
   rw [if_pos (by omega),if_pos (by omega),Int.toNat_natCast,uM,if_pos (by omega)]
   simp only [Option.bind_some]
   rw [yv (by omega),wT (n:=n) (by omega) (by rw [wc]; omega)]
   rw [c7 n hn m (j+1) e (k+1) (z.set j k) (y++[k]) (by omega) (by simp [hz]) (by omega) (by omega) (by
    rw [List.take_add_one,List.getElem?_set_self (by omega),List.take_set_of_le (Nat.le_refl j),ht]; rfl)]
   simp [vn]
   omega
theorem cQ (l:List Int) (k:Int) (h:ou l k):∃ N,tx N l k=some (tz l k):=by
 obtain ⟨h1,h2,h3⟩:=h
 refine ⟨l.length+1,?_⟩
 unfold tx tz
 have h1':l.length ≤ 1048576:=h1
 have:=c7 l.length h1 l.length 0 0 k l [] (by omega) rfl h2 (by omega) rfl
 simpa using this
def pt (s d:List Int) (k:Int):Prop:=small s∧small d∧0 ≤ k∧k ≤ 4194304
def yD (s d:List Int) (k:Int):Int×List Int×List Int:=(k+s.length+d.length,vn k s.length,vn (k+s.length) d.length)
theorem du (L:List Int→Int→Option (Int×List Int)) (hL:∀ l k,ou l k→L l k=some (tz l k)) (s d:List Int) (k:Int) (h:pt s d k):
  ∃ N,uL L N s d k=some (yD s d k):=by
 obtain ⟨h1,h2,h3,h4⟩:=h
 have h1':s.length ≤ 1048576:=h1
 refine ⟨0,?_⟩
 unfold uL
 rw [hL _ _ ⟨h1,h3,by omega⟩]
 simp only [Option.bind_some,tz]
 rw [hL _ _ ⟨h2,by omega,by omega⟩]
 rfl
def ot (l:List Int) (k:Int):Prop:=small l∧0 ≤ k∧k ≤ 16777216
def vW (l:List Int) (k:Int):Int:=if l=vn k l.length then k+l.length else -1
theorem cz (l:List Int) (hl:small l):∀ (r:List Int) (j e:Nat) (k:Int),l.drop j=r→0 ≤ k→k+r.length ≤ 33554432→
  wy (r.length+1+e) l k j=some (if r=vn k r.length then k+r.length else -1)
 | [],j,e,k,hd,h0,h1=>by
   rw [show ([]:List Int).length+1+e=e+1 by simp; omega]
   simp only [wy]
   rw [if_neg (pI hd)]; simp [vn]
 | x :: r,j,e,k,hd,h0,h1=>by
   obtain ⟨g1,g2,g3,g4,g5,g6⟩:=u4 hd
   have hb:l.length ≤ big:=by unfold small at hl; rw [wc]; omega
   rw [List.length_cons] at h1
   rw [show (x :: r).length+1+e=(r.length+1+e)+1 by simp; omega]
   simp only [wy]
   rw [if_pos g2,g3]
   simp only [Option.bind_some]
   by_cases c:x=k
   ·subst c
    rw [if_pos rfl,yv (by omega),wT g1 hb,cz l hl r (j+1) e (x+1) g5 (by omega) (by omega)]
    simp only [List.length_cons,vn,List.cons.injEq,true_and]
    congr 1
    split
    ·omega
    ·rfl
   ·rw [if_neg c]
    simp [vn,c]
theorem cr (l:List Int) (k:Int) (h:ot l k):∃ N,tp N l k=some (vW l k):=by
 obtain ⟨h1,h2,h3⟩:=h
 have h1':l.length ≤ 1048576:=h1
 refine ⟨l.length+1,?_⟩
 unfold tp vW
 have:=cz l h1 l 0 0 k rfl h2 (by omega)
 simpa using this
def pm (s d:List Int) (k:Int):Prop:=small s∧small d∧0 ≤ k∧k ≤ 4194304
def vG (s d:List Int) (k:Int):Int:=if s=vn k s.length∧d=vn (k+s.length) d.length then k+s.length+d.length else -1
theorem de (L:List Int→Int→Option Int) (hL:∀ l k,ot l k→L l k=some (vW l k)) (s d:List Int) (k:Int) (h:pm s d k):
  ∃ N,uO L N s d k=some (vG s d k):=by
 obtain ⟨h1,h2,h3,h4⟩:=h
 have h1':s.length ≤ 1048576:=h1
 refine ⟨0,?_⟩
 unfold uO vG
 rw [hL _ _ ⟨h1,h3,by omega⟩]
 simp only [Option.bind_some,vW]
 by_cases c:s=vn k s.length
 ·rw [if_pos c,if_neg (by omega),hL _ _ ⟨h2,by omega,by omega⟩]
  simp only [Option.bind_some,vW]
  by_cases c':d=vn (k+s.length) d.length
  ·rw [if_pos c',if_neg (by omega),if_pos ⟨c,c'⟩]
  ·rw [if_neg c',if_pos (by omega),if_neg (fun q=>c' q.2)]
 ·rw [if_neg c,if_pos (by omega),if_neg (fun q=>c q.1)]
def wF (op:Int) (s d:List Int):Prop:=s.length ≤ big∧d.length ≤ big
def qQ (op:Int) (s d:List Int):Bool:=true
theorem jV:∀ (n:Nat) (k:Int),(vn k n).length=n
 | 0,_=>rfl
 | n+1,k=>by simp [vn,jV n]
theorem Ur (s d:List Int) (k:Int):vG (yD s d k).2.1 (yD s d k).2.2 k=(yD s d k).1:=by
 unfold vG yD
 simp only [jV]
 rw [if_pos ⟨trivial,trivial⟩]
theorem Ps (s d:List Int):uy s d s d=true:=by simp [uy]
theorem OU {s d:List Int} {n:Int} (hn:0 ≤ n∧n ≤ 1048576) (c:¬ wb s d n < 0):small s∧small d∧0 ≤ wb s d n∧wb s d n ≤ 1048576:=by
 unfold wb at c ⊢
 unfold small
 split at c
 ·omega
 ·split at c
  ·omega
  ·rename_i c1 c2
   rw [if_neg c1,if_neg c2]
   omega
theorem Te {X:Except Int (List Int×List Int)} (h:∀ p,X= .ok p→small p.1∧small p.2):small (tri X).1∧small (tri X).2.1:=by
 cases X with
 | ok p=>exact h p rfl
 | error c=>exact ⟨Nat.zero_le _,Nat.zero_le _⟩
theorem YA {d:List Int} {w:Nat}:∀ {n:Nat},n * w ≤ d.length→(lU d w n).length=n * w
 | 0,_=>by simp [lU]
 | n+1,h=>by
   have h':=h
   rw [Nat.add_mul,Nat.one_mul] at h'
   simp only [lU,List.length_append]
   rw [p6 h,YA (by omega),Nat.add_mul,Nat.one_mul]; omega
theorem SU (s:List Nat) (d:List Int):(UE s d).length=d.length:=by simp [UE]
theorem YT {f:Int} {s d:List Int} (ha:ww s d=true) {p:List Int×List Int} (h:be f s d= .ok p):small p.1∧small p.2:=by
 obtain ⟨a1,a2,a3,a4,a5⟩:=yR ha
 have h0:small ([]:List Int):=Nat.zero_le _
 have h1:∀ x:Int,small [x]:=fun x=>by unfold small; simp
 unfold be at h
 split at h
 ·unfold kJ at h
  split at h
  ·split at h
   ·cases h
   ·split at h
    ·cases h
    ·cases h
     exact ⟨h1 _,by unfold small; rw [vT]; omega⟩
  ·cases h
 split at h
 ·cases h; exact ⟨h1 _,a1⟩
 split at h
 ·cases h; exact ⟨h1 _,a2⟩
 split at h
 ·cases h
  unfold ay
  match s,a1,a5,ha with
  | [],_,_,_=>exact ⟨h0,a2⟩
  | n :: t,a1,a5,ha=>
    refine ⟨a1,?_⟩
    obtain ⟨w,hw,hl,n0,n1,hs,hdl⟩:=dz ha
    unfold small
    simp only [hw,Int.toNat_natCast]
    rw [YA hdl]
    omega
 split at h
 ·cases h
  exact ⟨by unfold jL small at *; simpa using a1,by unfold jL small at *; simpa [SU] using a2⟩
 split at h
 ·cases h; exact ⟨h0,h1 _⟩
 ·unfold gz at h
  split at h
  ·cases h
   refine ⟨h1 _,?_⟩
   have:=(kG (fun t=>d.getD t 0) d.length).1
   unfold small pW
   simp only [List.length_map]
   rw [this]; omega
  ·cases h
theorem Xz {f:Int} {s d:List Int} (h:sG f s d):small (xl f s d).1∧small (xl f s d).2.1:=by
 unfold xl
 split
 ·rename_i q
  exact Te fun p hp=>YT q.2 hp
 ·exact ⟨Nat.zero_le _,Nat.zero_le _⟩
theorem iQ (L0:List Int→List Int→Int→Option Int) (h0:∀ s d n,nk s d n→L0 s d n=some (wb s d n))
  (L1:List Int→List Int→Option (List Int×List Int)) (h1:∀ s d,ni s d→L1 s d=some (pS s d))
  (L2:Int→List Int→List Int→Option (List Int×List Int×Int)) (h2:∀ op s d,sG op s d→L2 op s d=some (xl op s d))
  (L3:Int→List Int→List Int→Option (List Int×List Int×Int)) (h3:∀ op s d,mc op s d→L3 op s d=some (pv op s d))
  (L4:List Int→List Int→List Int→List Int→Option Bool) (h4:∀ s d s' d',nh s d s' d'→L4 s d s' d'=some (uy s d s' d'))
  (L5:List Int→List Int→Int→Option (Int×List Int×List Int)) (h5:∀ s d k,pt s d k→L5 s d k=some (yD s d k))
  (L6:List Int→List Int→Int→Option Int) (h6:∀ s d k,pm s d k→L6 s d k=some (vG s d k))
  (op:Int) (s d:List Int) (h:wF op s d):∃ N,vo L0 L1 L2 L3 L4 L5 L6 N op s d=some (qQ op s d):=by
 refine ⟨0,?_⟩
 unfold vo qQ
 rw [h0 _ _ _ ⟨h.1,h.2,by omega,by omega⟩]
 simp only [Option.bind_some]
 by_cases c:wb s d 1048576 < 0
 ·rw [if_pos c]
 ·rw [if_neg c]
  obtain ⟨q1,q2,q3,q4⟩:=OU (by omega) c
  have q1':s.length ≤ 1048576:=q1
  have q2':d.length ≤ 1048576:=q2
  have hs:small s∧small d:=⟨q1,q2⟩
  have hss:sG op s d:=⟨q1,q2⟩
  have hg:=Xz hss
  have hm1:=h5 s d 1 ⟨q1,q2,by omega,by omega⟩
  have hk0:0 ≤ (yD s d 1).1∧(yD s d 1).1 ≤ 4194304:=by
   unfold yD
   simp only
   omega
  have hm3:=h5 _ _ 1 ⟨hg.1,hg.2,by omega,by omega⟩
  have hm:small (yD (xl op s d).1 (xl op s d).2.1 1).2.1∧small (yD (xl op s d).1 (xl op s d).2.1 1).2.2:=by
   unfold yD small
   simp only [jV]
   exact hg
  have hh:=h6 _ _ 1 ⟨hm.1,hm.2,by omega,by omega⟩
  simp only [h1 _ _ hs,Option.bind_some,pS,h2 _ _ _ hss,h3 _ _ _ hss,pv,h4 _ _ _ _ hg,h4 _ _ _ _ hs,Ps,hm1,hm3,hh,Ur]
  have hk:∀ (s d:List Int) (k:Int),0 ≤ k→¬ (yD s d k).1 < 0:=by intro s d k hk; unfold yD; simp only; omega
  simp [hk,hk0.1]
theorem lN {op:Int} {s d:List Int} (ho:(Lit.int .i64 op).wf=true) (hs:s.length ≤ maxLen∧∀ x ∈ s,(Lit.int .i64 x).wf=true) (hd:d.length ≤ maxLen∧∀ x ∈ d,(Lit.int .i64 x).wf=true):wF op s d:=⟨hs.1,hd.1⟩
end Go.Vm
