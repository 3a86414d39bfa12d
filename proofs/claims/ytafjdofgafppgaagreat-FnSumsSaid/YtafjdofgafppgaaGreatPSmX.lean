/- What the functions under laws_FnSums answer. -/
import Derived.Test.YtafjdofgafppgaaGreatPBase
import Derived.Test.YtafjdofgafppgaaGreatFSm
import Derived.Lib.CountLaws
import Derived.Test.YtafjdofgafppgaaGreatVmLayer
set_option linter.all false
set_option maxRecDepth 100000
namespace Go.Vm
def tl (c:List Int):Prop:=c.length ≤ 1048576∧∀ x ∈ c,0 ≤ x∧x ≤ 255
def mw (c:List Int):List Int×Int:=(c.take 1000,0)
theorem HI {α:Type} {s:List α} {a b:Nat} (h:a ≤ b) (h':b ≤ s.length):cut s (a:Int) (b:Int)=some ((s.drop a).take (b - a)):=by
 unfold cut
 rw [if_pos (by omega),Int.toNat_natCast,show ((b:Int) - (a:Int)).toNat=b - a by omega]
theorem Ly {α:Type} {s:List α} {b:Nat} (h':b ≤ s.length):cut s 0 (b:Int)=some (s.take b):=by
 have:=HI (s:=s) (a:=0) (b:=b) (Nat.zero_le _) h'
 simpa using this
theorem US (c:List Int) (h:tl c):∃ N,my N c=some (mw c):=by
 refine ⟨0,?_⟩
 unfold my mw
 by_cases k:(1000:Int) < c.length
 ·rw [if_pos k]
  have:=Ly (s:=c) (b:=1000) (by omega)
  rw [show ((1000:Nat):Int)=1000 from rfl] at this
  rw [this]; rfl
 ·rw [if_neg k,List.take_of_length_le (by omega)]
def A7 (l:List Int):Prop:=l.length ≤ 1000∧∀ x ∈ l,0 ≤ x∧x ≤ 255
def gJ (b:List Int) (p:Int):Prop:=A7 b∧0 ≤ p∧p ≤ 1000
def sF (b:List Int) (p:Int):Prop:=gJ b p
def nx (b:List Int) (p:Int):Int:=if p < b.length then b.getD p.toNat 0 else 0
def npx (b:List Int) (p:Int):Int:=if p < b.length then p+1 else p
def vo (b:List Int) (p:Int):Int×List Int×Int:=(nx b p,b,npx b p)
theorem Wm {b:List Int} {p:Int} (h:gJ b p):0 ≤ nx b p∧nx b p ≤ 255:=by
 unfold nx
 split
 ·rename_i c
  have hl:p.toNat < b.length:=by have:=h.2.1; omega
  rw [List.getD_eq_getElem?_getD,List.getElem?_eq_getElem hl,Option.getD_some]
  exact h.1.2 _ (List.getElem_mem hl)
 ·omega
theorem aJ (b:List Int) (p:Int) (h:sF b p):∃ N,tK N b p=some (vo b p):=by
 refine ⟨0,?_⟩
 have hn:=Wm h
 have h2:=h.2
 unfold tK vo
 by_cases c:p < b.length
 ·rw [if_pos c]
  have hl:p.toNat < b.length:=by omega
  have hi:idx b p=some (nx b p):=by
   unfold idx nx
   rw [if_pos h2.1,if_pos c,List.getD_eq_getElem?_getD,List.getElem?_eq_getElem hl,Option.getD_some]
  rw [hi]
  simp only [Option.bind_some]
  rw [zY (by omega),zY (by omega)]
  unfold npx
  rw [if_pos c]
 ·rw [if_neg c]
  unfold nx npx
  rw [if_neg c,if_neg c]
def iS (b:List Int) (p:Int):Prop:=gJ b p
def aa (k:Int):Int:=if k.tmod 6=0 then 0 else if k.tmod 6=1 then 1 else if k.tmod 6=2 then 1 else if k.tmod 6=3 then 2 else if k.tmod 6=4 then 2 else 3
def shp (k:Int) (i:Nat):Int:=(k.tdiv 6+(i:Int) * 2).tmod 5
def SH (k:Int):List Int:=[Int.tdiv 1000 (1+k.tmod 2)]
def bv (k:Int):List Int:=if 248 ≤ k then SH k else (List.range' 0 (aa k).toNat).map (shp k)
def nk (b:List Int) (p:Int):List Int×List Int×Int:=(bv (nx b p),b,npx b p)
theorem Vr (k:Int):0 ≤ aa k∧aa k ≤ 3:=by
 unfold aa
 repeat' split
 all_goals omega
def zG (l:List Int):Prop:=l.length ≤ 1048576
theorem yR {l:List Int} (h:zG l):yu 8 l.length:=by
 have h':l.length ≤ 1048576:=h
 unfold yu sm; omega
theorem tmx {k:Int} (m:Int) (hk:0 ≤ k) (hm:0 < m):0 ≤ k.tmod m∧k.tmod m < m:=⟨Int.tmod_nonneg m hk,Int.tmod_lt_of_pos k hm⟩
theorem WK (L:List Int→Int→Option (Int×List Int×Int)) (m:Nat) (k i:Int) (b:List Int) (p:Int) (acc:List Int) (hk:0 ≤ k∧k ≤ 255):
  xH L (m+1) k i b p acc=if i < aa k then (if yu 8 (acc++[Int.tmod (w64 (w64 (Int.tdiv k 6)+w64 (i * 2))) 5]).length then xH L m k (w64 (i+1)) b p (acc++[Int.tmod (w64 (w64 (Int.tdiv k 6)+w64 (i * 2))) 5]) else none)
   else if 248 ≤ k then (if w64 (1+Int.tmod k 2)=0 then none else some ([w64 (Int.tdiv 1000 (w64 (1+Int.tmod k 2)))],b,p)) else some (acc,b,p):=by
 have h6:=tmx (k:=k) 6 hk.1 (by omega)
 simp only [xH]
 rw [if_pos h6]
 unfold aa
 generalize k.tmod 6=q at h6 ⊢
 obtain rfl | rfl | rfl | rfl | rfl | rfl:q=0 ∨ q=1 ∨ q=2 ∨ q=3 ∨ q=4 ∨ q=5:=by omega
 all_goals rfl
theorem QP (L:List Int→Int→Option (Int×List Int×Int)) (k:Int) (hk:0 ≤ k∧k ≤ 255) (b:List Int) (p:Int):∀ (n j e:Nat) (acc:List Int),(j:Int)+n=aa k→acc.length=j→
  xH L (n+1+e) k j b p acc=some (if 248 ≤ k then SH k else acc++(List.range' j n).map (shp k),b,p)
 | 0,j,e,acc,hj,ha=>by
   have h2:=tmx (k:=k) 2 hk.1 (by omega)
   rw [IJ,WK L _ k j b p acc hk,if_neg (by omega)]
   by_cases c:248 ≤ k
   ·rw [if_pos c,if_pos c,zY (n:=1+k.tmod 2) (by omega),if_neg (by omega)]
    unfold SH
    generalize k.tmod 2=m at h2 ⊢
    obtain rfl | rfl:m=0 ∨ m=1:=by omega
    ·rfl
    ·rfl
   ·rw [if_neg c,if_neg c]; simp
 | n+1,j,e,acc,hj,ha=>by
   have hc:=Vr k
   have h6:0 ≤ k.tdiv 6:=Int.tdiv_nonneg hk.1 (by omega)
   have h6':k.tdiv 6 ≤ k:=Int.tdiv_le_self _ hk.1
   rw [wK,WK L _ k j b p acc hk,if_pos (by omega),zY (n:=k.tdiv 6) (by omega),zY (n:=(j:Int) * 2) (by omega),zY (n:=k.tdiv 6+(j:Int) * 2) (by omega),zY (n:=(j:Int)+1) (by omega),
    if_pos (yR (by unfold zG; simp; omega)),show (j:Int)+1=((j+1:Nat):Int) by omega,QP L k hk b p n (j+1) e _ (by omega) (by simp; omega)]
   rw [List.range'_succ,List.map_cons,List.append_assoc]; rfl
theorem W6 (L:List Int→Int→Option (Int×List Int×Int)) (hL:∀ b p,sF b p→L b p=some (vo b p)) (b:List Int) (p:Int) (h:iS b p):
  ∃ N,oq L N b p=some (nk b p):=by
 have hk:=Wm h
 have hc:=Vr (nx b p)
 refine ⟨(aa (nx b p)).toNat+1+0,?_⟩
 unfold oq nk
 rw [hL b p h]
 simp only [Option.bind_some,vo]
 have:=QP L (nx b p) hk b (npx b p) (aa (nx b p)).toNat 0 0 [] (by omega) rfl
 exact this
def we (l:List Int):Prop:=zG l
def wb (p x:Int):Int:=if 1000 < w64 (p * x) then 1001 else w64 (p * x)
def yY (l:List Int):Int:=l.foldl wb 1
theorem ZN (l:List Int) (hl:zG l):∀ (r:List Int) (j e:Nat) (p:Int),l.drop j=r→vn (r.length+1+e) l p j=some (r.foldl wb p)
 | [],j,e,p,hd=>by
   rw [show ([]:List Int).length+1+e=e+1 by simp; omega]
   simp only [vn]
   rw [if_neg (vN hd)]; rfl
 | x :: r,j,e,p,hd=>by
   obtain ⟨h1,h2,h3,h4,h5,h6⟩:=xZ hd
   have hb:l.length ≤ big:=by unfold zG at hl; rw [wB]; omega
   rw [show (x :: r).length+1+e=(r.length+1+e)+1 by simp; omega]
   simp only [vn]
   rw [if_pos h2,h3]
   simp only [Option.bind_some,List.foldl_cons,va h1 hb]
   unfold wb
   by_cases c:1000 < w64 (p * x)
   ·rw [if_pos c,if_pos c,ZN l hl r (j+1) e _ h5]; rfl
   ·rw [if_neg c,if_neg c,ZN l hl r (j+1) e _ h5]; rfl
theorem XQ (l:List Int) (h:we l):∃ N,nF N l=some (yY l):=
 ⟨l.length+1,ZN l h l 0 0 1 rfl⟩
def lK (b:List Int) (p:Int):Prop:=gJ b p
def cel (k:Int):Int:=if k=255 then 3000000000 else if k=254 then -3000000000 else if 250 ≤ k then k * 11000007 else if 220 ≤ k then 220 - k else k.tmod 7
def ph (b:List Int) (p:Int):Int×List Int×Int:=(cel (nx b p),b,npx b p)
theorem U7 (L:List Int→Int→Option (Int×List Int×Int)) (hL:∀ b p,sF b p→L b p=some (vo b p)) (b:List Int) (p:Int) (h:lK b p):
  ∃ N,m6 L N b p=some (ph b p):=by
 have hk:=Wm h
 refine ⟨0,?_⟩
 unfold m6 ph
 rw [hL b p h]
 simp only [Option.bind_some,vo]
 rw [zY (n:=nx b p * 11000007) (by omega),zY (n:=220 - nx b p) (by omega)]
 unfold cel
 repeat' split
 all_goals rfl
def s6 (x:Int):Bool:=decide (0 ≤ x)&&decide (x ≤ 1000)
def xi (l:List Int):Bool:=decide (l.length ≤ 3)&&l.all s6&&decide (l.foldl wb 1 ≤ 1000)
def hZ (b:List Int) (p:Int) (s:List Int):Prop:=gJ b p∧xi s=true
def jB (b:List Int):Nat→Int→List Int×Int
 | 0,p=>([],p)
 | n+1,p=>(cel (nx b p) :: (jB b n (npx b p)).1,(jB b n (npx b p)).2)
def pOf (s:List Int):Nat:=(s.foldl wb 1).toNat
def ir (b:List Int) (p:Int) (s:List Int):List Int×List Int×List Int×Int:=(s,(jB b (pOf s) p).1,b,(jB b (pOf s) p).2)
theorem nE {l:List Int} (h:xi l=true):0 ≤ l.foldl wb 1∧l.foldl wb 1 ≤ 1000:=by
 unfold xi at h
 simp only [Bool.and_eq_true,decide_eq_true_eq] at h
 refine ⟨?_,h.2⟩
 have key:∀ (l:List Int) (p:Int),0 ≤ p→p ≤ 1001→l.all s6=true→0 ≤ l.foldl wb p:=by
  intro l
  induction l with
  | nil=>intro p h _ _; exact h
  | cons x l ih=>
    intro p h0 h1 ha
    simp only [List.all_cons,Bool.and_eq_true,s6,decide_eq_true_eq] at ha
    obtain ⟨⟨x0,x1⟩,ha⟩:=ha
    have hp0:0 ≤ p * x:=Int.mul_nonneg h0 x0
    have hp1:p * x ≤ 1001 * 1000:=Int.mul_le_mul h1 x1 x0 (by omega)
    rw [List.foldl_cons]
    refine ih _ ?_ ?_ ha
    ·unfold wb; rw [zY (by omega)]; split <;> omega
    ·unfold wb; rw [zY (by omega)]; split <;> omega
 exact key l 1 (by omega) (by omega) h.1.2
theorem bM {b:List Int} {p:Int} (h:gJ b p):gJ b (npx b p):=by
 refine ⟨h.1,?_⟩
 have h1:=h.1.1
 have h2:=h.2
 unfold npx
 split <;> omega
def jf (p x:Int):Int:=w64 (p * x)
def Tx (p q:Int):Prop:=(p ≤ 1000→q=p)∧(1000 < p→q=1001)
theorem ST:∀ (l:List Int) (p q B:Int),0 ≤ p→p ≤ B→B * 1000 ^ l.length ≤ 1000000000→l.all s6=true→Tx p q→Tx (l.foldl jf p) (l.foldl wb q)
 | [],p,q,B,h0,hB,hm,ha,hc=>hc
 | x :: l,p,q,B,h0,hB,hm,ha,hc=>by
   simp only [List.all_cons,Bool.and_eq_true,s6,decide_eq_true_eq] at ha
   obtain ⟨⟨x0,x1⟩,ha⟩:=ha
   have hB0:0 ≤ B:=Int.le_trans h0 hB
   have hp1:p * x ≤ B * 1000:=Int.mul_le_mul hB x1 x0 hB0
   have hp0:0 ≤ p * x:=Int.mul_nonneg h0 x0
   have hm':(B * 1000) * 1000 ^ l.length ≤ 1000000000:=by
    rw [List.length_cons,Int.pow_succ,Int.mul_comm (1000 ^ l.length) 1000,← Int.mul_assoc] at hm
    exact hm
   have hpow:(1:Int) ≤ 1000 ^ l.length:=Int.pow_pos (by omega)
   have hBs:B * 1000 ≤ 1000000000:=by
    have:=Int.mul_le_mul_of_nonneg_left hpow (show 0 ≤ B * 1000 by omega)
    omega
   simp only [List.foldl_cons]
   have e1:jf p x=p * x:=by unfold jf; exact zY (by omega)
   rw [e1]
   refine ST l (p * x) _ (B * 1000) hp0 hp1 hm' ha ?_
   by_cases c:p ≤ 1000
   ·rw [hc.1 c]
    unfold wb
    rw [zY (by omega)]
    constructor
    ·intro h; rw [if_neg (by omega)]
    ·intro h; rw [if_pos h]
   ·rw [hc.2 (by omega)]
    unfold wb
    rw [zY (by omega)]
    by_cases cx:x=0
    ·subst cx
     simp only [Int.mul_zero]
     exact ⟨fun _=>by simp,fun h=>by omega⟩
    ·have hx1:1 ≤ x:=by omega
     have hge:p * 1 ≤ p * x:=Int.mul_le_mul_of_nonneg_left hx1 h0
     constructor
     ·intro h; omega
     ·intro h; rw [if_pos (by omega)]
theorem dW (l:List Int) (hl:l.length ≤ 3) (ha:l.all s6=true):Tx (l.foldl jf 1) (l.foldl wb 1):=by
 refine ST l 1 1 1 (by omega) (by omega) ?_ ha ⟨fun _=>rfl,fun h=>by omega⟩
 rw [Int.one_mul]
 have:l.length=0 ∨ l.length=1 ∨ l.length=2 ∨ l.length=3:=by omega
 rcases this with h | h | h | h <;> rw [h] <;> decide
def zN:List Int→Int
 | []=>1
 | x :: l=>x * zN l
theorem Tz:∀ (l:List Int) (p B:Int),0 ≤ p→p ≤ B→B * 1000 ^ l.length ≤ 1000000000→l.all s6=true→l.foldl jf p=p * zN l
 | [],p,B,h0,hB,hm,ha=>by simp [zN]
 | x :: l,p,B,h0,hB,hm,ha=>by
   simp only [List.all_cons,Bool.and_eq_true,s6,decide_eq_true_eq] at ha
   obtain ⟨⟨x0,x1⟩,ha⟩:=ha
   have hB0:0 ≤ B:=Int.le_trans h0 hB
   have hp1:p * x ≤ B * 1000:=Int.mul_le_mul hB x1 x0 hB0
   have hp0:0 ≤ p * x:=Int.mul_nonneg h0 x0
   have hm':(B * 1000) * 1000 ^ l.length ≤ 1000000000:=by
    rw [List.length_cons,Int.pow_succ,Int.mul_comm (1000 ^ l.length) 1000,← Int.mul_assoc] at hm
    exact hm
   have hpow:(1:Int) ≤ 1000 ^ l.length:=Int.pow_pos (by omega)
   have hBs:B * 1000 ≤ 1000000000:=by
    have:=Int.mul_le_mul_of_nonneg_left hpow (show 0 ≤ B * 1000 by omega)
    omega
   simp only [List.foldl_cons]
   have e1:jf p x=p * x:=by unfold jf; exact zY (by omega)
   rw [e1,Tz l (p * x) (B * 1000) hp0 hp1 hm' ha,zN,Int.mul_assoc]
theorem uJ (l:List Int):xi l=true ↔ l.length ≤ 3∧l.all s6=true∧zN l ≤ 1000:=by
 unfold xi
 simp only [Bool.and_eq_true,decide_eq_true_eq,and_assoc]
 refine and_congr_right fun hl=>and_congr_right fun ha=>?_
 have e:l.foldl jf 1=zN l:=by
  rw [Tz l 1 1 (by omega) (by omega) ?_ ha,Int.one_mul]
  rw [Int.one_mul]
  have:l.length=0 ∨ l.length=1 ∨ l.length=2 ∨ l.length=3:=by omega
  rcases this with h | h | h | h <;> rw [h] <;> decide
 have hc:=dW l hl ha
 rw [e] at hc
 constructor
 ·intro h
  apply Classical.byContradiction
  intro hn
  have:=hc.2 (by omega)
  omega
 ·intro h; rw [hc.1 h]; exact h
theorem bJ {s:List Int} (h:xi s=true):zG s:=by
 have:=((uJ s).1 h).1
 unfold zG; omega
theorem Pn (L1:List Int→Option Int) (h1:∀ l,we l→L1 l=some (yY l)) (L2:List Int→Int→Option (Int×List Int×Int)) (h2:∀ b p,lK b p→L2 b p=some (ph b p))
  (s b:List Int) (hs:xi s=true):∀ (n j e:Nat) (p:Int) (acc:List Int),gJ b p→j+n=pOf s→acc.length=j→
  tN L1 L2 (n+1+e) s j b p s acc=some (s,acc++(jB b n p).1,b,(jB b n p).2)
 | 0,j,e,p,acc,hp,hj,ha=>by
   have hr:=nE hs
   unfold pOf at hj
   rw [IJ]
   simp only [tN]
   rw [h1 _ (bJ hs)]
   simp only [Option.bind_some,yY]
   rw [if_neg (by omega)]
   simp [jB]
 | n+1,j,e,p,acc,hp,hj,ha=>by
   have hr:=nE hs
   have hj':=hj
   unfold pOf at hj'
   rw [wK]
   simp only [tN]
   rw [h1 _ (bJ hs)]
   simp only [Option.bind_some,yY]
   rw [if_pos (by omega),h2 _ _ hp]
   simp only [Option.bind_some,ph]
   rw [if_pos (yR (by unfold zG; simp; omega)),zY (by omega),show (j:Int)+1=((j+1:Nat):Int) by omega,Pn L1 h1 L2 h2 s b hs n (j+1) e _ _ (bM hp) (by omega) (by simp; omega)]
   rw [List.append_assoc]; rfl
theorem UH (L1:List Int→Option Int) (h1:∀ l,we l→L1 l=some (yY l)) (L2:List Int→Int→Option (Int×List Int×Int)) (h2:∀ b p,lK b p→L2 b p=some (ph b p))
  (b:List Int) (p:Int) (s:List Int) (h:hZ b p s):∃ N,iq L1 L2 N b p s=some (ir b p s):=by
 refine ⟨pOf s+1+0,?_⟩
 have:=Pn L1 h1 L2 h2 s b h.2 (pOf s) 0 0 p [] h.1 (by omega) rfl
 exact this
def up (l:List Int):Prop:=zG l
def xC (l:List Int):List Int:=l
theorem Te (l:List Int) (h:up l):∃ N,nR N l=some (xC l):=by
 refine ⟨0,?_⟩
 unfold nR xC
 rw [if_pos (yR h)]
def kb (c:List Int):Prop:=tl c
def wx (b:Bool):Int:=if b=true then 1 else 0
def inR (x:Int):Int×Int:=if x < -3000000000 then (0,5) else if 3000000000 < x then (0,5) else (x,0)
def flo (x y:Int):Int:=if Int.tmod x y=0 then Int.tdiv x y else if (decide (Int.tmod x y < 0) == decide (y < 0))=false then Int.tdiv x y - 1 else Int.tdiv x y
def res (x y:Int):Int:=if Int.tmod x y=0 then 0 else if (decide (Int.tmod x y < 0) == decide (y < 0))=false then Int.tmod x y+y else Int.tmod x y
def xc (op x y:Int):Int×Int:=
 if op=1 then inR (x+y)
 else if op=2 then inR (x - y)
 else if op=3 then inR (x * y)
 else if op=4 then (if y=0 then (0,1) else inR (flo x y))
 else if op=5 then (if y=0 then x else res x y,0)
 else if op=8 then (wx (decide (x < y)),0)
 else if op=9 then (wx (decide (x=y)),0)
 else if op=10 then (wx (decide (y < x)),0)
 else if (decide (op=6) == decide (x < y))=true then (x,0) else (y,0)
def two (op x y:Int):Except Int Int:=if (xc op x y).2=0 then .ok (xc op x y).1 else .error (xc op x y).2
def j1 (c:List Int):List Int:=bv (nx (c.take 1000) 0)
def Kf (c:List Int):List Int:=(jB (c.take 1000) (pOf (j1 c)) (npx (c.take 1000) 0)).1
def JS (c:List Int):List Int:=(jB (c.take 1000) (pOf (j1 c)) (jB (c.take 1000) (pOf (j1 c)) (npx (c.take 1000) 0)).2).1
def rQ (c:List Int):List Int×List Int×List Int×List Int:=(j1 c,Kf c,j1 c,JS c)
theorem UA {c:List Int} (h:tl c):gJ (c.take 1000) 0:=⟨⟨by rw [List.length_take]; omega,fun x hx=>h.2 x (List.mem_of_mem_take hx)⟩,by omega⟩
theorem W8 {b:List Int}:∀ (n:Nat) (p:Int),gJ b p→gJ b (jB b n p).2
 | 0,p,h=>h
 | n+1,p,h=>W8 n _ (bM h)
def gm (x:Int):Bool:=decide (-3000000000 ≤ x)&&decide (x ≤ 3000000000)
def ym (s d:List Int):Bool:=xi s&&decide ((d.length:Int)=s.foldl wb 1)&&d.all gm
theorem DH {k:Int} (hk:0 ≤ k∧k ≤ 255) (i:Nat):0 ≤ shp k i∧shp k i ≤ 4:=by
 have h:0 ≤ k.tdiv 6:=Int.tdiv_nonneg hk.1 (by omega)
 have:=tmx (k:=k.tdiv 6+(i:Int) * 2) 5 (by omega) (by omega)
 unfold shp
 omega
theorem JZ {l:List Int} (hl:l.length ≤ 3) (h:∀ x ∈ l,0 ≤ x∧x ≤ 4):xi l=true:=by
 refine (uJ l).2 ⟨hl,?_,?_⟩
 ·rw [List.all_eq_true]
  intro x hx
  have:=h x hx
  unfold s6
  simp only [Bool.and_eq_true,decide_eq_true_eq]
  omega
 ·match l,hl,h with
  | [],_,_=>decide
  | [x],_,h=>
    have:=h x (by simp)
    simp only [zN,Int.mul_one]; omega
  | [x,y],_,h=>
    have h1:=h x (by simp)
    have h2:=h y (by simp)
    have:=Int.mul_le_mul h1.2 h2.2 h2.1 (by omega)
    simp only [zN,Int.mul_one]; omega
  | [x,y,z],_,h=>
    have h1:=h x (by simp)
    have h2:=h y (by simp)
    have h3:=h z (by simp)
    have q1:=Int.mul_le_mul h2.2 h3.2 h3.1 (by omega)
    have q2:=Int.mul_le_mul h1.2 q1 (Int.mul_nonneg h2.1 h3.1) (by omega)
    simp only [zN,Int.mul_one]; omega
theorem Hl (k:Int) (hk:0 ≤ k):xi (SH k)=true:=by
 have h:=tmx (k:=k) 2 hk (by omega)
 unfold SH
 generalize k.tmod 2=m at h ⊢
 obtain rfl | rfl:m=0 ∨ m=1:=by omega
 ·decide
 ·decide
theorem Oo {k:Int} (hk:0 ≤ k∧k ≤ 255):xi (bv k)=true:=by
 unfold bv
 split
 ·exact Hl k hk.1
 ·have:=Vr k
  refine JZ (by simp; omega) ?_
  intro x hx
  obtain ⟨i,_,rfl⟩:=List.mem_map.1 hx
  exact DH hk i
def zO (x:Int):Prop:=-3000000000 ≤ x∧x ≤ 3000000000
theorem Rc (b:List Int):∀ (n:Nat) (p:Int),(jB b n p).1.length=n
 | 0,p=>rfl
 | n+1,p=>by simp only [jB,List.length_cons,Rc b n]
theorem DS {k:Int} (hk:0 ≤ k∧k ≤ 255):zO (cel k):=by
 have h:=tmx (k:=k) 7 hk.1 (by omega)
 unfold zO cel
 repeat' split
 all_goals omega
theorem QT {b:List Int}:∀ (n:Nat) (p:Int),gJ b p→∀ x ∈ (jB b n p).1,zO x
 | 0,p,h,x,hx=>by cases hx
 | n+1,p,h,x,hx=>by
   simp only [jB,List.mem_cons] at hx
   rcases hx with rfl | hx
   ·exact DS (Wm h)
   ·exact QT n _ (bM h) x hx
theorem Sl {b s:List Int} {p:Int} (hs:xi s=true) (hp:gJ b p):ym s (jB b (pOf s) p).1=true:=by
 have hr:=nE hs
 unfold ym
 rw [hs,Rc]
 simp only [Bool.true_and,Bool.and_eq_true,decide_eq_true_eq,List.all_eq_true]
 refine ⟨by unfold pOf; omega,fun x hx=>?_⟩
 have:=QT _ _ hp x hx
 simpa [gm,zO] using this
theorem TT {c:List Int} (h:tl c):xi (j1 c)=true∧ym (j1 c) (Kf c)=true∧ym (j1 c) (JS c)=true:=by
 have hr:=UA h
 have hs:=Oo (Wm hr)
 exact ⟨hs,Sl hs (bM hr),Sl hs (W8 _ _ (bM hr))⟩
theorem Xh (L1:List Int→Option (List Int×Int)) (h1:∀ c,tl c→L1 c=some (mw c))
  (L2:List Int→Int→Option (List Int×List Int×Int)) (h2:∀ b p,iS b p→L2 b p=some (nk b p))
  (L3:List Int→Int→List Int→Option (List Int×List Int×List Int×Int)) (h3:∀ b p s,hZ b p s→L3 b p s=some (ir b p s))
  (L4:List Int→Option (List Int)) (h4:∀ l,up l→L4 l=some (xC l)) (c:List Int) (h:kb c):
  ∃ N,rF L1 L2 L3 L4 N c=some (rQ c):=by
 have hr:=UA h
 have hs:=(TT h).1
 refine ⟨0,?_⟩
 unfold rF rQ
 rw [h1 c h]
 simp only [Option.bind_some,mw]
 rw [h2 _ _ hr]
 simp only [Option.bind_some,nk]
 rw [show bv (nx (c.take 1000) 0)=j1 c from rfl]
 rw [h3 _ _ _ ⟨bM hr,hs⟩]
 simp only [Option.bind_some,ir]
 rw [h4 _ (bJ hs)]
 simp only [Option.bind_some,xC]
 rw [h3 _ _ _ ⟨W8 _ _ (bM hr),hs⟩]
 rfl
def lN (op:Int):Prop:=True
def xO (op:Int):Bool:=decide (1 ≤ op∧op ≤ 10)
theorem U9 (op:Int) (h:lN op):∃ N,nW N op=some (xO op):=by
 refine ⟨0,?_⟩
 unfold nW xO
 by_cases c:1 ≤ op
 ·rw [if_pos c]; simp [c]
 ·rw [if_neg c]; simp [c]
def lO (l:List Int):Prop:=zG l
def sO (l:List Int):Bool:=xi l
theorem Lf (L:List Int→Option Int) (l:List Int) (hl:zG l) (q:Int) (hq:L l=some q):∀ (r:List Int) (j e:Nat),l.drop j=r→
  sf L (r.length+1+e) l j=some (r.all s6&&decide (q ≤ 1000))
 | [],j,e,hd=>by
   rw [show ([]:List Int).length+1+e=e+1 by simp; omega]
   simp only [sf]
   rw [if_neg (vN hd),hq]; rfl
 | x :: r,j,e,hd=>by
   obtain ⟨h1,h2,h3,h4,h5,h6⟩:=xZ hd
   have hb:l.length ≤ big:=by unfold zG at hl; rw [wB]; omega
   rw [show (x :: r).length+1+e=(r.length+1+e)+1 by simp; omega]
   simp only [sf]
   rw [if_pos h2,h3]
   simp only [Option.bind_some,va h1 hb,List.all_cons,s6]
   by_cases c1:x < 0
   ·rw [if_pos c1]; simp; omega
   ·rw [if_neg c1]
    by_cases c2:1000 < x
    ·rw [if_pos c2]; simp; omega
    ·rw [if_neg c2,Lf L l hl q hq r (j+1) e h5]
     have e1:decide (0 ≤ x)=true:=by simp; omega
     have e2:decide (x ≤ 1000)=true:=by simp; omega
     rw [e1,e2]; simp
theorem UW (L:List Int→Option Int) (hL:∀ l,we l→L l=some (yY l)) (l:List Int) (h:lO l):∃ N,mX L N l=some (sO l):=by
 refine ⟨l.length+1,?_⟩
 unfold mX sO xi
 by_cases c:(3:Int) < l.length
 ·have:¬ l.length ≤ 3:=by omega
  rw [if_pos c]; simp [this]
 ·have:l.length ≤ 3:=by omega
  rw [if_neg c]
  have q:=Lf L l h _ (hL l h) l 0 0 rfl
  rw [show l.length+1+0=l.length+1 by rfl] at q
  rw [show ((0:Nat):Int)=0 by rfl] at q
  rw [q]; simp only [this,yY,decide_true,Bool.true_and]; rfl
def nv (s d:List Int):Prop:=zG s∧zG d
def sg (s d:List Int):Bool:=ym s d
theorem ah (L1:List Int→Option Bool) (L2:List Int→Option Int) (s l:List Int) (hl:zG l):∀ (r:List Int) (j e:Nat),l.drop j=r→
  tj L1 L2 (r.length+1+e) j s l=some (r.all gm)
 | [],j,e,hd=>by
   rw [show ([]:List Int).length+1+e=e+1 by simp; omega]
   simp only [tj]
   rw [if_neg (vN hd)]; rfl
 | x :: r,j,e,hd=>by
   obtain ⟨h1,h2,h3,h4,h5,h6⟩:=xZ hd
   have hb:l.length ≤ big:=by unfold zG at hl; rw [wB]; omega
   rw [show (x :: r).length+1+e=(r.length+1+e)+1 by simp; omega]
   simp only [tj]
   rw [if_pos h2,h3]
   simp only [Option.bind_some,va h1 hb,List.all_cons,gm]
   by_cases c1:x < -3000000000
   ·rw [if_pos c1]; simp; omega
   ·rw [if_neg c1]
    by_cases c2:3000000000 < x
    ·rw [if_pos c2]; simp; omega
    ·rw [if_neg c2,ah L1 L2 s l hl r (j+1) e h5]
     have e1:decide (-3000000000 ≤ x)=true:=by simp; omega
     have e2:decide (x ≤ 3000000000)=true:=by simp; omega
     rw [e1,e2]; simp
theorem V6 (L1:List Int→Option Bool) (h1:∀ l,lO l→L1 l=some (sO l)) (L2:List Int→Option Int) (h2:∀ l,we l→L2 l=some (yY l))
  (s d:List Int) (h:nv s d):∃ N,oE L1 L2 N s d=some (sg s d):=by
 refine ⟨d.length+1,?_⟩
 unfold oE sg ym
 rw [h1 _ h.1,h2 _ h.1]
 simp only [Option.bind_some,sO,yY]
 have q:=ah L1 L2 s d h.2 d 0 0 rfl
 rw [show d.length+1+0=d.length+1 by rfl,show ((0:Nat):Int)=0 by rfl] at q
 rw [q]
 cases xi s
 ·simp
 ·by_cases c:(d.length:Int)=s.foldl wb 1 <;> simp [c]
def gj (op:Int):Prop:=True
def sW (op:Int):Option Int:=
 if op=3 then some 1 else if op=4 then some 1 else if op=6 then some 3000000000 else if op=7 then some (-3000000000)
 else if op=1 then some 0 else if op=2 then some 0 else if op=5 then some 0 else none
def n5 (op:Int):Int×Bool:=match sW op with
 | some v=>(v,true)
 | none=>(0,false)
theorem UR (op:Int) (h:gj op):∃ N,nV N op=some (n5 op):=by
 refine ⟨0,?_⟩
 unfold nV n5 sW
 by_cases c3:op=3
 ·simp [c3]
 by_cases c4:op=4
 ·simp [c4]
 by_cases c6:op=6
 ·simp [c6]
 by_cases c7:op=7
 ·simp [c7]
 by_cases c1:op=1
 ·simp [c1]
 by_cases c2:op=2
 ·simp [c2]
 by_cases c5:op=5
 ·simp [c5]
 ·simp [c1,c2,c3,c4,c5,c6,c7]
def lI (s d:List Int):Prop:=zG s
def sN (s d:List Int):Alt (List Int×List Int) (List Int×List Int):=if xi s=true then .b (s,d) else .a (s,d)
theorem U1 (L:List Int→Option Bool) (hL:∀ l,lO l→L l=some (sO l)) (s d:List Int) (h:lI s d):∃ N,mo L N s d=some (sN s d):=by
 refine ⟨0,?_⟩
 unfold mo sN
 rw [hL _ h]
 simp only [Option.bind_some,sO]
 cases xi s <;> simp
def lC (s d a:List Int):Prop:=zG a∧xi a=true∧d.length=1
def tF (s d a:List Int):List Int×List Int:=(a,List.replicate (a.foldl wb 1).toNat (d.headD 0))
theorem Mx (L1:List Int→Option (List Int)) (L2:List Int→Option Int) (s:List Int) (n:Nat) (hn:n ≤ 1000) (hp:L2 s=some (n:Int)) (x:Int) (s0 d0:List Int) (hx:idx d0 0=some x) (s':List Int):∀ (m j e:Nat),j+m=n→
  tZ L1 L2 (m+1+e) s j s0 d0 s' (List.replicate j x)=some (s',List.replicate n x)
 | 0,j,e,h=>by
   rw [show 0+1+e=e+1 by omega]
   simp only [tZ]
   rw [hp]
   simp only [Option.bind_some]
   rw [if_neg (by omega),show j=n by omega]
 | m+1,j,e,h=>by
   rw [show m+1+1+e=(m+1+e)+1 by omega]
   simp only [tZ]
   rw [hp,hx]
   simp only [Option.bind_some]
   have e1:List.replicate j x++[x]=List.replicate (j+1) x:=by rw [List.replicate_succ']
   rw [if_pos (by omega),e1,if_pos (yR (by unfold zG; simp; omega)),va (n:=n) (by omega) (by rw [wB]; omega)]
   exact Mx L1 L2 s n hn hp x s0 d0 hx s' m (j+1) e (by omega)
theorem Tu (L1:List Int→Option (List Int)) (h1:∀ l,up l→L1 l=some (xC l)) (L2:List Int→Option Int) (h2:∀ l,we l→L2 l=some (yY l))
  (s d a:List Int) (h:lC s d a):∃ N,ma L1 L2 N s d a=some (tF s d a):=by
 obtain ⟨h3,h4,h5⟩:=h
 have hr:=nE h4
 obtain ⟨x,rfl⟩:∃ x,d=[x]:=by
  cases d with
  | nil=>simp at h5
  | cons x d=>simp at h5; subst h5; exact ⟨x,rfl⟩
 refine ⟨(a.foldl wb 1).toNat+1,?_⟩
 unfold ma tF
 rw [h1 _ h3]
 simp only [Option.bind_some,xC]
 exact Mx L1 L2 a (a.foldl wb 1).toNat (by omega) (by rw [h2 _ h3]; unfold yY; congr 1; omega) x s [x] rfl a (a.foldl wb 1).toNat 0 0 (by omega)
def jx (s d:List Int) (i:Int):Prop:=zG d∧∃ n t,s=n :: t∧xi t=true∧0 ≤ i∧(i.toNat+1) * (zN t).toNat ≤ d.length
def yS (d:List Int) (w i:Nat):List Int:=(d.drop (i * w)).take w
def qM (s d:List Int) (i:Int):List Int×List Int:=(s.tail,yS d (zN s.tail).toNat i.toNat)
theorem ke:∀ {l:List Int},l.all s6=true→0 ≤ zN l
 | [],_=>by simp [zN]
 | x :: l,h=>by
   simp only [List.all_cons,Bool.and_eq_true,s6,decide_eq_true_eq] at h
   exact Int.mul_nonneg h.1.1 (ke h.2)
theorem pu {l:List Int} (h:xi l=true):l.foldl wb 1=zN l:=by
 obtain ⟨hl,ha,hp⟩:=(uJ l).1 h
 have e:l.foldl jf 1=zN l:=by
  rw [Tz l 1 1 (by omega) (by omega) ?_ ha,Int.one_mul]
  rw [Int.one_mul]
  have:l.length=0 ∨ l.length=1 ∨ l.length=2 ∨ l.length=3:=by omega
  rcases this with h | h | h | h <;> rw [h] <;> decide
 have hc:=dW l hl ha
 rw [e] at hc
 exact hc.1 hp
theorem uf {d:List Int} {w i:Nat} (h:(i+1) * w ≤ d.length):(yS d w i).length=w:=by
 unfold yS
 rw [Nat.add_mul,Nat.one_mul] at h
 simp only [List.length_take,List.length_drop]
 omega
theorem pj (n:Int) (t:List Int):cut (n :: t) 1 ((n :: t).length:Int)=some t:=by
 unfold cut
 rw [if_pos (by simp only [List.length_cons]; omega)]
 simp
theorem Yb {d:List Int} (hd:zG d) {w i:Nat} (h:(i+1) * w ≤ d.length):cut d ((i:Int) * w) ((i:Int) * w+w)=some (yS d w i):=by
 unfold cut yS
 have e:(i:Int) * w=((i * w:Nat):Int):=by simp
 rw [Nat.add_mul,Nat.one_mul] at h
 rw [e,if_pos (by omega),Int.toNat_natCast,show (((i * w:Nat):Int)+w - ((i * w:Nat):Int)).toNat=w by omega]
theorem SN (L1:List Int→Option (List Int)) (h1:∀ l,up l→L1 l=some (xC l)) (L2:List Int→Option Int) (h2:∀ l,we l→L2 l=some (yY l))
  (s d:List Int) (i:Int) (h:jx s d i):∃ N,ky L1 L2 N s d i=some (qM s d i):=by
 obtain ⟨hd,n,t,rfl,ht,hi,hl⟩:=h
 obtain ⟨i,rfl⟩:=Int.eq_ofNat_of_zero_le hi
 obtain ⟨w1,w2,w3⟩:=(uJ t).1 ht
 obtain ⟨w,hw⟩:=Int.eq_ofNat_of_zero_le (ke w2)
 have hts:zG t:=by unfold zG; omega
 have hds:d.length ≤ 1048576:=hd
 refine ⟨0,?_⟩
 unfold ky qM
 simp only [List.tail_cons]
 rw [pj]
 simp only [Option.bind_some]
 rw [h1 _ hts]
 simp only [Option.bind_some,xC]
 rw [h2 _ hts]
 simp only [Option.bind_some,yY,pu ht]
 rw [hw] at hl ⊢
 simp only [Int.toNat_natCast,Int.ofNat_eq_natCast] at hl ⊢
 have hl':=hl
 rw [Nat.add_mul,Nat.one_mul] at hl'
 have e:(i:Int) * w=((i * w:Nat):Int):=by simp
 rw [zY (n:=(i:Int) * w) (by omega),zY (by omega),Yb hd hl]
 simp only [Option.bind_some]
 rw [h1 _ (by show zG _; unfold zG; rw [uf hl]; omega)]
 rfl
def lT (a b:List Int):Prop:=zG a
def uG (a b:List Int):Bool:=decide (a=b)
theorem MN (a b:List Int) (ha:zG a) (hab:a.length=b.length):∀ (r t:List Int) (j e:Nat),a.drop j=r→b.drop j=t→t4 (r.length+1+e) a b j=some (decide (r=t))
 | [],t,j,e,hd,hd'=>by
   have h:=vN hd
   rw [show ([]:List Int).length+1+e=e+1 by simp; omega]
   simp only [t4]
   have:t=[]:=by rw [← hd']; exact List.drop_eq_nil_of_le (by omega)
   rw [if_neg h,this]; rfl
 | x :: r,t,j,e,hd,hd'=>by
   obtain ⟨h1,h2,h3,h4,h5,h6⟩:=xZ hd
   have hb:a.length ≤ big:=by unfold zG at ha; rw [wB]; omega
   cases t with
   | nil=>have:=vN hd'; omega
   | cons y t=>
     obtain ⟨g1,g2,g3,g4,g5,g6⟩:=xZ hd'
     rw [show (x :: r).length+1+e=(r.length+1+e)+1 by simp; omega]
     simp only [t4]
     rw [if_pos h2,h3,g3]
     simp only [Option.bind_some]
     rw [va h1 hb,MN a b ha hab r t (j+1) e h5 g5]
     by_cases c:x=y
     ·rw [if_pos c]; simp [c]
     ·rw [if_neg c]; simp [c]
theorem U4 (a b:List Int) (h:lT a b):∃ N,lj N a b=some (uG a b):=by
 refine ⟨a.length+1,?_⟩
 unfold lj uG
 by_cases c:(a.length:Int)=b.length
 ·rw [if_pos c]
  exact MN a b h (by omega) a b 0 0 rfl rfl
 ·rw [if_neg c]
  have:¬ a=b:=by rintro rfl; exact c rfl
  simp [this]
def fZ (x:Int):Prop:=True
def j2 (x:Int):Int×Int:=inR x
theorem QF (x:Int) (h:fZ x):∃ N,jO N x=some (j2 x):=by
 refine ⟨0,?_⟩
 unfold jO j2 inR
 split
 ·rfl
 ·split <;> rfl
def iJ (x y:Int):Prop:=zO x∧zO y∧¬ y=0
def o9 (x y:Int):Int:=flo x y
theorem RF (x y:Int) (hx:zO x):-3000000000 ≤ Int.tdiv x y∧Int.tdiv x y ≤ 3000000000:=by
 obtain ⟨h1,h2⟩:=hx
 have:(Int.tdiv x y).natAbs ≤ x.natAbs:=by
  rw [Int.natAbs_tdiv]; exact Nat.div_le_self _ _
 omega
theorem SO (x y:Int) (hx:zO x):-3000000000 ≤ Int.tmod x y∧Int.tmod x y ≤ 3000000000:=by
 obtain ⟨h1,h2⟩:=hx
 have:(Int.tmod x y).natAbs ≤ x.natAbs:=by
  rw [Int.natAbs_tmod]; exact Nat.mod_le _ _
 omega
theorem KT (x y:Int) (h:¬ Int.tmod x y=0):Int.tmod x y < 0 ↔ x < 0:=by
 have s:=Int.sign_tmod x y
 have hd:¬ y ∣ x:=fun q=>h (Int.dvd_iff_tmod_eq_zero.1 q)
 rw [if_neg hd] at s
 rw [← Int.sign_eq_neg_one_iff_neg,← Int.sign_eq_neg_one_iff_neg,s]
theorem V3 (x y:Int) (h:iJ x y):∃ N,nf N x y=some (o9 x y):=by
 obtain ⟨hx,hy,h0⟩:=h
 refine ⟨0,?_⟩
 have ht:=RF x y hx
 have hm:=SO x y hx
 have e:=Int.mul_tdiv_add_tmod x y
 have hx':=hx
 obtain ⟨x1,x2⟩:=hx'
 unfold nf o9 flo
 rw [if_neg h0,zY (n:=Int.tdiv x y) (by omega),Int.mul_comm,zY (n:=y * Int.tdiv x y) (by omega)]
 by_cases c:Int.tmod x y=0
 ·rw [if_pos c,if_pos (by omega)]
 ·rw [if_neg c,if_neg (by omega),zY (n:=Int.tdiv x y - 1) (by omega)]
  have:=KT x y c
  simp only [this]
  split <;> rfl
def gp (b:Bool):Prop:=True
theorem UI (b:Bool) (h:gp b):∃ N,n9 N b=some (wx b):=by
 refine ⟨0,?_⟩
 unfold n9 wx
 cases b <;> rfl
def jo (op x y:Int):Prop:=zO x∧zO y
def sB (op x y:Int):Int×Int:=xc op x y
theorem Hc (x y:Int):y * flo x y=x - res x y:=by
 have e:=Int.mul_tdiv_add_tmod x y
 unfold flo res
 split
 ·omega
 ·split
  ·rw [Int.mul_sub,Int.mul_one]; omega
  ·omega
theorem Vg (x y:Int) (hx:zO x) (hy:zO y):-3000000000 ≤ res x y∧res x y ≤ 3000000000:=by
 have h:=SO x y hx
 obtain ⟨y1,y2⟩:=hy
 unfold res
 split
 ·omega
 ·rename_i c
  split
  ·rename_i d
   by_cases p:Int.tmod x y < 0 <;> by_cases q:y < 0
   ·simp [p,q] at d
   ·omega
   ·omega
   ·simp [p,q] at d
  ·omega
theorem Z8 {x y:Int} (hx:zO x) (hy:zO y):-9000000000000000000 ≤ x * y∧x * y ≤ 9000000000000000000:=by
 obtain ⟨x1,x2⟩:=hx
 obtain ⟨y1,y2⟩:=hy
 have h:(x * y).natAbs ≤ 3000000000 * 3000000000:=by
  rw [Int.natAbs_mul]; exact Nat.mul_le_mul (by omega) (by omega)
 omega
theorem ES {x:Int} (h:zO x):inR x=(x,0):=by
 obtain ⟨h1,h2⟩:=h
 unfold inR; rw [if_neg (by omega),if_neg (by omega)]
theorem T4 (L1:Int→Option (Int×Int)) (h1:∀ x,fZ x→L1 x=some (j2 x)) (L2:Int→Int→Option Int) (h2:∀ x y,iJ x y→L2 x y=some (o9 x y))
  (L3:Bool→Option Int) (h3:∀ b,gp b→L3 b=some (wx b)) (op x y:Int) (h:jo op x y):∃ N,kT L1 L2 L3 N op x y=some (sB op x y):=by
 obtain ⟨hx,hy⟩:=h
 have hm:=Z8 hx hy
 have hx':=hx
 have hy':=hy
 obtain ⟨x1,x2⟩:=hx'
 obtain ⟨y1,y2⟩:=hy'
 refine ⟨0,?_⟩
 unfold kT sB xc
 rw [zY (n:=x+y) (by omega),zY (n:=x - y) (by omega),zY (n:=x * y) (by omega)]
 simp only [h1 _ trivial,h3 _ trivial,Option.bind_some,j2]
 by_cases c1:op=1
 ·rw [if_pos c1,if_pos c1]
 rw [if_neg c1,if_neg c1]
 by_cases c2:op=2
 ·rw [if_pos c2,if_pos c2]
 rw [if_neg c2,if_neg c2]
 by_cases c3:op=3
 ·rw [if_pos c3,if_pos c3]
 rw [if_neg c3,if_neg c3]
 by_cases h0:y=0
 ·simp only [h0,if_true]
  split
  ·rfl
  ·split
   ·rfl
   ·split
    ·rfl
    ·split
     ·rfl
     ·split
      ·rfl
      ·split <;> rfl
 ·have hq:=Hc x y
  have hr:=Vg x y hx hy
  simp only [h0,if_false]
  rw [h2 _ _ ⟨hx,hy,h0⟩]
  simp only [Option.bind_some,o9,hq]
  rw [zY (n:=x - res x y) (by omega),show x - (x - res x y)=res x y by omega,zY (n:=res x y) (by omega),ES hr]
  split
  ·rfl
  ·split
   ·rfl
   ·split
    ·rfl
    ·split
     ·rfl
     ·split
      ·rfl
      ·split <;> rfl
def lG (op:Int) (s1 d1 s2 d2:List Int):Prop:=ym s1 d1=true∧ym s2 d2=true
def tri:Except Int (List Int×List Int)→List Int×List Int×Int
 | .ok p=>(p.1,p.2,0)
 | .error c=>([],[],c)
def xn (op:Int):List Int→List Int→Except Int (List Int)
 | x :: a,y :: b=>match two op x y with
   | .ok v=>match xn op a b with
     | .ok l=> .ok (v :: l)
     | .error c=> .error c
   | .error c=> .error c
 | _,_=> .ok []
def yO (s acc:List Int):Except Int (List Int)→Except Int (List Int×List Int)
 | .ok l=> .ok (s,acc++l)
 | .error c=> .error c
def eM (op:Int) (s1 d1 s2 d2:List Int):Except Int (List Int×List Int):=
 if s1.length=0 then yO s2 [] (xn op (List.replicate d2.length (d1.headD 0)) d2)
 else if s2.length=0 then yO s1 [] (xn op d1 (List.replicate d1.length (d2.headD 0)))
 else if s1.length=s2.length then (if s1=s2 then yO s1 [] (xn op d1 d2) else .error 3)
 else .error 2
def pe (op:Int) (s1 d1 s2 d2:List Int):List Int×List Int×Int:=tri (eM op s1 d1 s2 d2)
theorem M8 {l:List Int} (h:l.all gm=true):∀ x ∈ l,zO x:=by
 intro x hx
 have:=List.all_eq_true.1 h x hx
 simpa [gm,zO] using this
theorem z5 {s d:List Int} (h:ym s d=true):(∀ x ∈ d,zO x)∧xi s=true∧(d.length:Int)=s.foldl wb 1:=by
 unfold ym at h
 simp only [Bool.and_eq_true,decide_eq_true_eq] at h
 exact ⟨M8 h.2,h.1.1,h.1.2⟩
theorem yA {s d:List Int} (h:ym s d=true):zG s∧zG d∧s.length ≤ 3∧d.length ≤ 1000∧(d.length:Int)=s.foldl wb 1:=by
 obtain ⟨h1,h2,h3⟩:=z5 h
 have h4:=nE h2
 have h5:s.length ≤ 3:=by
  unfold xi at h2
  simp only [Bool.and_eq_true,decide_eq_true_eq] at h2
  exact h2.1.1
 unfold zG
 omega
theorem nl {s acc:List Int} {op x y v:Int} {a b:List Int} (h:two op x y= .ok v):yO s acc (xn op (x :: a) (y :: b))=yO s (acc++[v]) (xn op a b):=by
 simp only [xn,h]
 cases xn op a b <;> simp [yO]
theorem ly {s acc:List Int} {op x y c:Int} {a b:List Int} (h:two op x y= .error c):yO s acc (xn op (x :: a) (y :: b))= .error c:=by
 simp only [xn,h,yO]
theorem kg {op x y:Int} (h:(xc op x y).2=0):two op x y= .ok (xc op x y).1:=if_pos h
theorem jb {op x y:Int} (h:¬ (xc op x y).2=0):two op x y= .error (xc op x y).2:=if_neg h
section
variable (L1:List Int→List Int→List Int→Option (List Int×List Int)) (L2:List Int→List Int→Option Bool) (L3:List Int→Option (List Int))
 (L4:Int→Int→Int→Option (Int×Int)) (h4:∀ op x y,jo op x y→L4 op x y=some (sB op x y))
include h4
theorem Sy (op:Int) (a b sa sb s':List Int) (ha:zG a) (ca:∀ x ∈ a,zO x) (cb:∀ x ∈ b,zO x) (hab:a.length=b.length):∀ (r t:List Int) (j e:Nat) (acc:List Int),a.drop j=r→b.drop j=t→acc.length=j→
  tQ L1 L2 L3 L4 (r.length+1+e) op j sa a sb b s' acc=some (tri (yO s' acc (xn op r t)))
 | [],t,j,e,acc,hd,hd',hj=>by
   rw [show ([]:List Int).length+1+e=e+1 by simp; omega]
   simp only [tQ]
   rw [if_neg (vN hd)]; simp [xn,yO,tri]
 | x :: r,t,j,e,acc,hd,hd',hj=>by
   obtain ⟨g1,g2,g3,g4,g5,g6⟩:=xZ hd
   have hb:a.length ≤ big:=by unfold zG at ha; rw [wB]; omega
   cases t with
   | nil=>have:=vN hd'; omega
   | cons y t=>
     obtain ⟨k1,k2,k3,k4,k5,k6⟩:=xZ hd'
     rw [show (x :: r).length+1+e=(r.length+1+e)+1 by simp; omega]
     simp only [tQ]
     rw [if_pos g2,if_pos (by omega),Int.toNat_natCast,g4]
     simp only [Option.bind_some]
     rw [k3]
     simp only [Option.bind_some]
     rw [h4 _ _ _ ⟨ca x (List.mem_of_getElem? g4),cb y (List.mem_of_getElem? k4)⟩]
     simp only [Option.bind_some,sB]
     by_cases c:(xc op x y).2=0
     ·rw [if_pos c,if_pos (yR (by unfold zG at ha ⊢; simp; omega)),va g1 hb,Sy op a b sa sb s' ha ca cb hab r t (j+1) e _ g5 k5 (by simp [hj]),nl (kg c)]
     ·rw [if_neg c,ly (jb c)]; rfl
theorem TX (op:Int) (a b sa sb s':List Int) (ha:zG a) (ca:∀ x ∈ a,zO x) (cb:∀ x ∈ b,zO x) (hab:a.length=b.length):∀ (r t:List Int) (j e:Nat) (acc:List Int),a.drop j=r→b.drop j=t→acc.length=j→
  tU L1 L2 L3 L4 (r.length+1+e) op j sa a sb b s' acc=some (tri (yO s' acc (xn op r t)))
 | [],t,j,e,acc,hd,hd',hj=>by
   rw [show ([]:List Int).length+1+e=e+1 by simp; omega]
   simp only [tU]
   rw [if_neg (vN hd)]; simp [xn,yO,tri]
 | x :: r,t,j,e,acc,hd,hd',hj=>by
   obtain ⟨g1,g2,g3,g4,g5,g6⟩:=xZ hd
   have hb:a.length ≤ big:=by unfold zG at ha; rw [wB]; omega
   cases t with
   | nil=>have:=vN hd'; omega
   | cons y t=>
     obtain ⟨k1,k2,k3,k4,k5,k6⟩:=xZ hd'
     rw [show (x :: r).length+1+e=(r.length+1+e)+1 by simp; omega]
     simp only [tU]
     rw [if_pos g2,g3]
     simp only [Option.bind_some]
     rw [if_pos (by omega),Int.toNat_natCast,k4]
     simp only [Option.bind_some]
     rw [h4 _ _ _ ⟨ca x (List.mem_of_getElem? g4),cb y (List.mem_of_getElem? k4)⟩]
     simp only [Option.bind_some,sB]
     by_cases c:(xc op x y).2=0
     ·rw [if_pos c,if_pos (yR (by unfold zG at ha ⊢; simp; omega)),va g1 hb,TX op a b sa sb s' ha ca cb hab r t (j+1) e _ g5 k5 (by simp [hj]),nl (kg c)]
     ·rw [if_neg c,ly (jb c)]; rfl
theorem SL (op:Int) (a b sa sb s':List Int) (ha:zG a) (ca:∀ x ∈ a,zO x) (cb:∀ x ∈ b,zO x) (hab:a.length=b.length):∀ (r t:List Int) (j e:Nat) (acc:List Int),a.drop j=r→b.drop j=t→acc.length=j→
  t9 L1 L2 L3 L4 (r.length+1+e) op j sa a sb b s' acc=some (tri (yO s' acc (xn op r t)))
 | [],t,j,e,acc,hd,hd',hj=>by
   rw [show ([]:List Int).length+1+e=e+1 by simp; omega]
   simp only [t9]
   rw [if_neg (vN hd)]; simp [xn,yO,tri]
 | x :: r,t,j,e,acc,hd,hd',hj=>by
   obtain ⟨g1,g2,g3,g4,g5,g6⟩:=xZ hd
   have hb:a.length ≤ big:=by unfold zG at ha; rw [wB]; omega
   cases t with
   | nil=>have:=vN hd'; omega
   | cons y t=>
     obtain ⟨k1,k2,k3,k4,k5,k6⟩:=xZ hd'
     rw [show (x :: r).length+1+e=(r.length+1+e)+1 by simp; omega]
     simp only [t9]
     rw [if_pos g2,g3,k3]
     simp only [Option.bind_some]
     rw [h4 _ _ _ ⟨ca x (List.mem_of_getElem? g4),cb y (List.mem_of_getElem? k4)⟩]
     simp only [Option.bind_some,sB]
     by_cases c:(xc op x y).2=0
     ·rw [if_pos c,if_pos (yR (by unfold zG at ha ⊢; simp; omega)),va g1 hb,SL op a b sa sb s' ha ca cb hab r t (j+1) e _ g5 k5 (by simp [hj]),nl (kg c)]
     ·rw [if_neg c,ly (jb c)]; rfl
end
theorem pY {s d:List Int} (h:ym s d=true) (h0:s.length=0):∃ x,d=[x]∧zO x:=by
 obtain ⟨h1,h2,h3,h4,h5⟩:=yA h
 have:s=[]:=List.eq_nil_of_length_eq_zero h0
 subst this
 simp only [List.foldl_nil] at h5
 cases d with
 | nil=>simp at h5
 | cons x d=>
   simp only [List.length_cons] at h5
   have:d=[]:=List.eq_nil_of_length_eq_zero (by omega)
   subst this
   exact ⟨x,rfl,(z5 h).1 x (by simp)⟩
theorem UG (L1:List Int→List Int→List Int→Option (List Int×List Int)) (h1:∀ s d a,lC s d a→L1 s d a=some (tF s d a))
  (L2:List Int→List Int→Option Bool) (h2:∀ a b,lT a b→L2 a b=some (uG a b)) (L3:List Int→Option (List Int)) (h3:∀ l,up l→L3 l=some (xC l))
  (L4:Int→Int→Int→Option (Int×Int)) (h4:∀ op x y,jo op x y→L4 op x y=some (sB op x y)) (op:Int) (s1 d1 s2 d2:List Int) (h:lG op s1 d1 s2 d2):
  ∃ N,nL L1 L2 L3 L4 N op s1 d1 s2 d2=some (pe op s1 d1 s2 d2):=by
 obtain ⟨ha,hb⟩:=h
 obtain ⟨a1,a2,a3,a4,a5⟩:=yA ha
 obtain ⟨b1,b2,b3,b4,b5⟩:=yA hb
 have ca:=(z5 ha).1
 have cb:=(z5 hb).1
 unfold nL pe eM
 by_cases c1:s1.length=0
 ·obtain ⟨x,rfl,hx⟩:=pY ha c1
  have en:(s2.foldl wb 1).toNat=d2.length:=by omega
  refine ⟨d2.length+1,?_⟩
  rw [if_pos (by omega),if_pos c1,h1 _ _ _ ⟨b1,(z5 hb).2.1,rfl⟩]
  simp only [Option.bind_some,tF,en,List.headD_cons]
  rw [if_pos trivial,h2 _ _ b1,h3 _ b1]
  simp only [Option.bind_some,uG,xC,decide_true]
  rw [if_neg (by simp)]
  have key:=Sy L1 L2 L3 L4 h4 op (List.replicate d2.length x) d2 s2 s2 s2 (by unfold zG at *; simpa using b2) (fun y hy=>by rw [(List.mem_replicate.1 hy).2]; exact hx) cb (by simp) (List.replicate d2.length x) d2 0 0 [] rfl rfl rfl
  simpa using key
 ·have i1:¬ (s1.length:Int)=0:=by omega
  by_cases c2:s2.length=0
  ·obtain ⟨x,rfl,hx⟩:=pY hb c2
   have en:(s1.foldl wb 1).toNat=d1.length:=by omega
   refine ⟨d1.length+1,?_⟩
   rw [if_neg i1,if_neg c1,if_pos (show (s2.length:Int)=0 by omega),if_pos c2,h1 _ _ _ ⟨a1,(z5 ha).2.1,rfl⟩]
   simp only [Option.bind_some,tF,en,List.headD_cons]
   rw [if_pos trivial,h2 _ _ a1,h3 _ a1]
   simp only [Option.bind_some,uG,xC,decide_true]
   rw [if_neg (by simp)]
   have key:=TX L1 L2 L3 L4 h4 op d1 (List.replicate d1.length x) s1 s1 s1 a2 ca (fun y hy=>by rw [(List.mem_replicate.1 hy).2]; exact hx) (by simp) d1 (List.replicate d1.length x) 0 0 [] rfl rfl rfl
   simpa using key
  ·have i2:¬ (s2.length:Int)=0:=by omega
   by_cases c3:s1.length=s2.length
   ·refine ⟨d1.length+1,?_⟩
    rw [if_neg i1,if_neg c1,if_neg i2,if_neg c2,if_pos (show (s1.length:Int)=s2.length by omega),if_pos c3,h2 _ _ a1,h3 _ a1]
    simp only [Option.bind_some,uG,xC]
    by_cases c4:s1=s2
    ·subst c4
     rw [if_neg (by simp),if_pos rfl]
     have key:=SL L1 L2 L3 L4 h4 op d1 d2 s1 s1 s1 a2 ca cb (by omega) d1 d2 0 0 [] rfl rfl rfl
     simpa using key
    ·rw [if_pos (by simp [c4]),if_neg c4]; rfl
   ·refine ⟨0,?_⟩
    rw [if_neg i1,if_neg c1,if_neg i2,if_neg c2,if_neg (show ¬ (s1.length:Int)=s2.length by omega),if_neg c3]; rfl
def sX (op:Int) (s d:List Int):Prop:=ym s d=true
def su (op:Int) (d:List Int) (w:Nat):Nat→List Int→Except Int (List Int)
 | 0,acc=> .ok acc
 | i+1,acc=>match xn op (yS d w i) acc with
   | .ok l=>su op d w i l
   | .error c=> .error c
def vv (op:Int) (s d:List Int) (k:Int):Except Int (List Int×List Int):=match s with
 | []=> .ok ([],d)
 | n :: t=>if k=0 then (match sW op with
     | none=> .error 1
     | some v=>if xi t=true then .ok (t,List.replicate (zN t).toNat v) else .error 6)
   else yO t [] (su op d (zN t).toNat (k - 1).toNat (yS d (zN t).toNat (k - 1).toNat))
def vr (op:Int) (s d:List Int):List Int×List Int×Int:=tri (vv op s d (s.headD 0))
theorem wv {n:Int} {t:List Int} (h:xi (n :: t)=true):0 ≤ n∧n ≤ 1000∧0 ≤ zN t∧n * zN t ≤ 1000∧t.length ≤ 2:=by
 obtain ⟨hl,ha,hp⟩:=(uJ _).1 h
 simp only [List.all_cons,Bool.and_eq_true,s6,decide_eq_true_eq] at ha
 simp only [List.length_cons] at hl
 exact ⟨ha.1.1,ha.1.2,ke ha.2,hp,by omega⟩
theorem Uf {n:Int} {t:List Int} (h:xi (n :: t)=true) (hn:1 ≤ n):xi t=true:=by
 obtain ⟨h1,h2,h3,h4,h5⟩:=wv h
 obtain ⟨hl,ha,hp⟩:=(uJ _).1 h
 simp only [List.all_cons,Bool.and_eq_true] at ha
 refine (uJ t).2 ⟨by omega,ha.2,?_⟩
 have:=Int.mul_le_mul_of_nonneg_right hn h3
 omega
theorem ju {s d:List Int} (h:ym s d=true):(d.length:Int)=zN s:=by
 obtain ⟨h1,h2,h3⟩:=z5 h
 rw [h3,pu h2]
theorem kZ {d:List Int} {w i:Nat} {p:Int→Prop} (h:∀ x ∈ d,p x):∀ x ∈ yS d w i,p x:=
 fun x hx=>h x (List.mem_of_mem_drop (List.mem_of_mem_take hx))
theorem pQ {op n k:Int} {t d:List Int} (h:¬ k=0):vv op (n :: t) d k=yO t [] (su op d (zN t).toNat (k - 1).toNat (yS d (zN t).toNat (k - 1).toNat)):=if_neg h
theorem dT {op:Int}:∀ {a b l:List Int},xn op a b= .ok l→a.length=b.length→l.length=a.length
 | [],b,l,h,hl=>by simp only [xn,Except.ok.injEq] at h; subst h; rfl
 | x :: a,[],l,h,hl=>by simp at hl
 | x :: a,y :: b,l,h,hl=>by
   simp only [xn] at h
   cases h1:two op x y with
   | error c=>rw [h1] at h; cases h
   | ok v=>
     rw [h1] at h
     cases h2:xn op a b with
     | error c=>rw [h2] at h; cases h
     | ok l'=>
       rw [h2] at h
       simp only [Except.ok.injEq] at h
       subst h
       simp only [List.length_cons,dT h2 (by simpa using hl)]
theorem fV {s d:List Int} (h:xi s=true) (hl:(d.length:Int)=zN s) (hc:∀ x ∈ d,zO x):ym s d=true:=by
 unfold ym
 rw [h,pu h]
 simp only [hl,decide_true,Bool.and_self,Bool.true_and,List.all_eq_true]
 intro x hx
 have:=hc x hx
 simpa [gm,zO] using this
theorem CS {x:Int} (h:(inR x).2=0):zO (inR x).1:=by
 unfold inR at h ⊢
 split at h
 ·simp at h
 ·split at h
  ·simp at h
  ·rename_i c1 c2
   rw [if_neg c1,if_neg c2]
   unfold zO; omega
theorem Fd (b:Bool):zO (wx b):=by cases b <;> (unfold zO wx; decide)
theorem Ra {op x y v:Int} (hx:zO x) (hy:zO y) (h:two op x y= .ok v):zO v:=by
 unfold two at h
 split at h
 ·rename_i c
  simp only [Except.ok.injEq] at h
  subst h
  have hr:=Vg x y hx hy
  unfold xc at c ⊢
  repeat' split
  all_goals first
   | exact hx
   | exact hy
   | exact hr
   | exact Fd _
   | (apply CS; simp_all; done)
   | (exfalso; simp_all; done)
 ·cases h
theorem bx {op:Int}:∀ {a b l:List Int},(∀ x ∈ a,zO x)→(∀ x ∈ b,zO x)→xn op a b= .ok l→∀ z ∈ l,zO z
 | [],b,l,ha,hb,h=>by simp only [xn,Except.ok.injEq] at h; subst h; simp
 | x :: a,[],l,ha,hb,h=>by simp only [xn,Except.ok.injEq] at h; subst h; simp
 | x :: a,y :: b,l,ha,hb,h=>by
   simp only [xn] at h
   cases h1:two op x y with
   | error c=>rw [h1] at h; cases h
   | ok v=>
     rw [h1] at h
     cases h2:xn op a b with
     | error c=>rw [h2] at h; cases h
     | ok l'=>
       rw [h2] at h
       simp only [Except.ok.injEq] at h
       subst h
       intro z hz
       rcases List.mem_cons.1 hz with rfl | hz
       ·exact Ra (ha x (by simp)) (hb y (by simp)) h1
       ·exact bx (fun x hx=>ha x (by simp [hx])) (fun x hx=>hb x (by simp [hx])) h2 z hz
theorem b6 {op c:Int}:∀ {a b:List Int},xn op a b= .error c→¬ c=0
 | [],b,h=>by simp [xn] at h
 | x :: a,[],h=>by simp [xn] at h
 | x :: a,y :: b,h=>by
   simp only [xn] at h
   cases h1:two op x y with
   | error c'=>
     rw [h1] at h
     simp only [Except.error.injEq] at h
     subst h
     unfold two at h1
     split at h1
     ·cases h1
     ·rename_i q
      simp only [Except.error.injEq] at h1
      rw [← h1]; exact q
   | ok v=>
     rw [h1] at h
     cases h2:xn op a b with
     | error c'=>
       rw [h2] at h
       simp only [Except.error.injEq] at h
       subst h
       exact b6 h2
     | ok l'=>rw [h2] at h; cases h
theorem P7 {op:Int} {t a b:List Int} (ha:ym t a=true) (hb:ym t b=true):eM op t a t b=yO t [] (xn op a b):=by
 unfold eM
 by_cases c:t.length=0
 ·obtain ⟨x,rfl,hx⟩:=pY ha c
  obtain ⟨y,rfl,hy⟩:=pY hb c
  rw [if_pos c]; rfl
 ·rw [if_neg c,if_neg c,if_pos rfl,if_pos rfl]
section
variable (L1:List Int→Option (List Int)) (L2:Int→Option (Int×Bool)) (L3:List Int→List Int→Option (Alt (List Int×List Int) (List Int×List Int))) (L4:List Int→List Int→List Int→Option (List Int×List Int))
 (L5:List Int→List Int→Int→Option (List Int×List Int)) (h5:∀ s d i,jx s d i→L5 s d i=some (qM s d i))
 (L6:Int→List Int→List Int→List Int→List Int→Option (List Int×List Int×Int)) (h6:∀ op s1 d1 s2 d2,lG op s1 d1 s2 d2→L6 op s1 d1 s2 d2=some (pe op s1 d1 s2 d2))
include h5 h6
theorem Ua (op n:Int) (t d:List Int) (w:Nat) (ht:xi t=true) (hw:zN t=(w:Int)) (hd:zG d) (hc:∀ x ∈ d,zO x):∀ (i e:Nat) (acc:List Int),i ≤ 1000→i * w ≤ d.length→(acc.length:Int)=zN t→(∀ x ∈ acc,zO x)→
  vS L1 L2 L3 L4 L5 L6 (i+1+e) op ((i:Int) - 1) (n :: t) d t acc=some (tri (yO t [] (su op d w i acc)))
 | 0,e,acc,hb,hi,ha,hin=>by
   rw [show 0+1+e=e+1 by omega]
   simp only [vS]
   rw [if_neg (by omega)]; simp [su,yO,tri]
 | i+1,e,acc,hb,hi,ha,hin=>by
   rw [show i+1+1+e=(i+1+e)+1 by omega]
   simp only [vS]
   have hi':=hi
   rw [Nat.add_mul,Nat.one_mul] at hi'
   have e1:(((i+1:Nat):Int) - 1)=(i:Int):=by omega
   have hwt:(zN t).toNat=w:=by rw [hw]; rfl
   have hr:zG d∧∃ n' t',n :: t=n' :: t'∧xi t'=true∧0 ≤ (i:Int)∧((i:Int).toNat+1) * (zN t').toNat ≤ d.length:=
    ⟨hd,n,t,rfl,ht,by omega,by rw [hwt,Int.toNat_natCast]; exact hi⟩
   rw [e1,if_pos (by omega),h5 _ _ _ hr]
   simp only [Option.bind_some,qM,List.tail_cons,hwt,Int.toNat_natCast]
   have a1:ym t (yS d w i)=true:=fV ht (by rw [uf hi,hw]) (kZ hc)
   have a2:ym t acc=true:=fV ht ha hin
   rw [h6 _ _ _ _ _ ⟨a1,a2⟩]
   simp only [Option.bind_some,pe,P7 a1 a2,su]
   cases h:xn op (yS d w i) acc with
   | error c=>
     exact if_neg (b6 h)
   | ok l=>
     refine (if_pos rfl).trans ?_
     show vS L1 L2 L3 L4 L5 L6 (i+1+e) op (w64 ((i:Int) - 1)) (n :: t) d t ([]++l)=_
     have hlen:=ju a1
     rw [List.nil_append,show w64 ((i:Int) - 1)=(i:Int) - 1 from zY (by omega)]
     exact Ua op n t d w ht hw hd hc i e l (by omega) (by omega) (by rw [dT h (by have:=ju a2; omega)]; exact hlen) (bx (kZ hc) hin h)
end
theorem Wa (L1:List Int→Option (List Int)) (h1:∀ l,up l→L1 l=some (xC l)) (L2:Int→Option (Int×Bool)) (h2:∀ op,gj op→L2 op=some (n5 op))
  (L3:List Int→List Int→Option (Alt (List Int×List Int) (List Int×List Int))) (h3:∀ s d,lI s d→L3 s d=some (sN s d)) (L4:List Int→List Int→List Int→Option (List Int×List Int)) (h4:∀ s d a,lC s d a→L4 s d a=some (tF s d a))
  (L5:List Int→List Int→Int→Option (List Int×List Int)) (h5:∀ s d i,jx s d i→L5 s d i=some (qM s d i))
  (L6:Int→List Int→List Int→List Int→List Int→Option (List Int×List Int×Int)) (h6:∀ op s1 d1 s2 d2,lG op s1 d1 s2 d2→L6 op s1 d1 s2 d2=some (pe op s1 d1 s2 d2))
  (op:Int) (s d:List Int) (h:sX op s d):∃ N,pS L1 L2 L3 L4 L5 L6 N op s d=some (vr op s d):=by
 obtain ⟨a1,a2,a3,a4,a5⟩:=yA h
 have hf:=(z5 h).2.1
 have hc:=(z5 h).1
 unfold pS vr
 cases s with
 | nil=>
   refine ⟨0,?_⟩
   rw [if_pos (show (([]:List Int).length:Int)=0 from rfl),h1 _ a2]; rfl
 | cons n t=>
   obtain ⟨n0,n1,p0,p1,t2⟩:=wv hf
   have ht2:zG t:=by unfold zG; omega
   have e0:idx (n :: t) 0=some n:=rfl
   by_cases c:n=0
   ·refine ⟨0,?_⟩
    subst c
    rw [if_neg (by simp only [List.length_cons]; omega),e0]
    simp only [Option.bind_some,if_true,List.headD_cons,vv]
    rw [h2 _ trivial]
    simp only [Option.bind_some,n5]
    cases sW op with
    | none=>rfl
    | some v=>
      refine (if_neg (by simp)).trans ?_
      rw [pj]
      simp only [Option.bind_some]
      rw [h1 _ ht2]
      simp only [Option.bind_some,xC]
      rw [h3 _ _ ht2]
      simp only [Option.bind_some,sN]
      by_cases cf:xi t=true
      ·rw [if_pos cf,if_pos cf]
       simp only [Alt.on]
       rw [h4 _ _ _ ⟨ht2,cf,rfl⟩]
       simp only [Option.bind_some,tF,pu cf]; rfl
      ·rw [if_neg cf,if_neg cf]; rfl
   ·obtain ⟨w,hw⟩:=Int.eq_ofNat_of_zero_le p0
    obtain ⟨m,hm⟩:=Int.eq_ofNat_of_zero_le (show 0 ≤ n - 1 by omega)
    have hft:=Uf hf (by omega)
    have hlen:=ju h
    have hnm:n=((m+1:Nat):Int):=by omega
    have hdl:(m+1) * w=d.length:=by
     rw [zN,hw,hnm] at hlen
     exact_mod_cast hlen.symm
    have hwt:(zN t).toNat=w:=by rw [hw]; rfl
    refine ⟨m+1,?_⟩
    rw [if_neg (by simp only [List.length_cons]; omega),e0]
    simp only [Option.bind_some]
    rw [if_neg c,show (n :: t).headD 0=n from rfl,pQ c]
    have hr:zG d∧∃ n' t',n :: t=n' :: t'∧xi t'=true∧0 ≤ (m:Int)∧((m:Int).toNat+1) * (zN t').toNat ≤ d.length:=
     ⟨a2,n,t,rfl,hft,by omega,by rw [hwt,Int.toNat_natCast]; omega⟩
    rw [show w64 (n - 1)=(m:Int) by rw [zY (by omega)]; exact hm,h5 _ _ _ hr]
    simp only [Option.bind_some,qM,List.tail_cons,hwt,Int.toNat_natCast]
    rw [show w64 (n - 2)=(m:Int) - 1 by rw [zY (by omega)]; omega]
    have hrl:(yS d w m).length=w:=uf (by omega)
    have key:=Ua L1 L2 L3 L4 L5 h5 L6 h6 op n t d w hft hw a2 hc m 0 (yS d w m) (by omega) (by rw [Nat.add_mul] at hdl; omega) (by rw [hrl,hw]) (kZ hc)
    rw [show (n - 1).toNat=m by omega]
    exact key
def pA (op:Int) (s d:List Int):Prop:=zG s∧zG d
def xy (op:Int) (s d:List Int):List Int×List Int×Int:=if (1 ≤ op∧op ≤ 10)∧ym s d=true then tri (vv op s d (s.headD 0)) else ([],[],9)
theorem Tj (L1:Int→Option Bool) (h1:∀ op,lN op→L1 op=some (xO op)) (L2:List Int→List Int→Option Bool) (h2:∀ s d,nv s d→L2 s d=some (sg s d))
  (L3:Int→List Int→List Int→Option (List Int×List Int×Int)) (h3:∀ op s d,sX op s d→L3 op s d=some (vr op s d))
  (op:Int) (s d:List Int) (h:pA op s d):∃ N,mG L1 L2 L3 N op s d=some (xy op s d):=by
 refine ⟨0,?_⟩
 unfold mG xy
 rw [h1 _ trivial,h2 _ _ h]
 simp only [Option.bind_some,xO,sg]
 by_cases c:1 ≤ op∧op ≤ 10
 ·cases c1:ym s d with
  | false=>simp [c]
  | true=>
    rw [h3 _ _ _ c1]
    simp [c,vr]
 ·simp [c]
def nI (s d:List Int) (k:Int):Prop:=ym s d=true∧∃ n t,s=n :: t∧1 ≤ k∧k ≤ n
def rm (s d:List Int) (k:Int):List Int×List Int:=(k :: s.tail,d.take (k * zN s.tail).toNat)
theorem eS {n k:Int} {t:List Int} (h:xi (n :: t)=true) (hk:0 ≤ k∧k ≤ n):xi (k :: t)=true:=by
 obtain ⟨h1,h2,h3,h4,h5⟩:=wv h
 obtain ⟨hl,ha,hp⟩:=(uJ _).1 h
 simp only [List.all_cons,Bool.and_eq_true,s6,decide_eq_true_eq] at ha
 refine (uJ _).2 ⟨by simpa using hl,?_,?_⟩
 ·simp only [List.all_cons,Bool.and_eq_true,s6,decide_eq_true_eq]
  exact ⟨by omega,ha.2⟩
 ·have:=Int.mul_le_mul_of_nonneg_right hk.2 h3
  rw [zN]; omega
theorem YB {d:List Int} {w i k:Nat} (h:i < k):yS (d.take (k * w)) w i=yS d w i:=by
 unfold yS
 rw [List.drop_take,List.take_take]
 congr 1
 have:i * w+w ≤ k * w:=by
  have:=Nat.mul_le_mul_right w (show i+1 ≤ k by omega)
  rw [Nat.add_mul,Nat.one_mul] at this; exact this
 omega
theorem Up {op:Int} {d:List Int} {w k:Nat}:∀ {i:Nat} {acc:List Int},i ≤ k→su op (d.take (k * w)) w i acc=su op d w i acc
 | 0,acc,h=>rfl
 | i+1,acc,h=>by
   simp only [su]
   rw [YB (by omega)]
   cases xn op (yS d w i) acc with
   | error c=>rfl
   | ok l=>exact Up (by omega)
theorem SZ {op n k:Int} {t d:List Int} (h:ym (n :: t) d=true) (hk:1 ≤ k∧k ≤ n):ym (k :: t) (d.take (k * zN t).toNat)=true∧vv op (k :: t) (d.take (k * zN t).toNat) k=vv op (n :: t) d k∧0 ≤ k * zN t∧k * zN t ≤ d.length:=by
 have hf:=(z5 h).2.1
 obtain ⟨n0,n1,p0,p1,t2⟩:=wv hf
 have hlen:=ju h
 have hkp:0 ≤ k * zN t:=Int.mul_nonneg (by omega) p0
 have hkn:k * zN t ≤ n * zN t:=Int.mul_le_mul_of_nonneg_right hk.2 p0
 rw [zN] at hlen
 refine ⟨fV (eS hf ⟨by omega,hk.2⟩) (by rw [zN,List.length_take]; omega) (fun x hx=>(z5 h).1 x (List.mem_of_mem_take hx)),?_,hkp,by omega⟩
 rw [pQ (by omega),pQ (by omega)]
 obtain ⟨w,hw⟩:=Int.eq_ofNat_of_zero_le p0
 obtain ⟨j,hj⟩:=Int.eq_ofNat_of_zero_le (show 0 ≤ k by omega)
 have e:(k * zN t).toNat=j * w:=by rw [hw,hj]; exact Int.toNat_natCast (j * w) ▸ (by simp)
 have ew:(zN t).toNat=w:=by rw [hw]; rfl
 rw [e,ew,YB (by omega),Up (by omega)]
theorem VE (L1:List Int→Option Int) (h1:∀ l,we l→L1 l=some (yY l)) (L2:List Int→Option (List Int)) (h2:∀ l,up l→L2 l=some (xC l))
  (s d:List Int) (k:Int) (h:nI s d k):∃ N,oL L1 L2 N s d k=some (rm s d k):=by
 obtain ⟨ha,n,t,rfl,hk⟩:=h
 obtain ⟨a1,a2,a3,a4,a5⟩:=yA ha
 have hf:=(z5 ha).2.1
 have hfk:=eS hf ⟨by omega,hk.2⟩
 obtain ⟨f1,f2,f3,f4⟩:=SZ (op:=0) ha hk
 simp only [List.length_cons] at a3
 refine ⟨0,?_⟩
 unfold oL rm
 rw [pj]
 simp only [Option.bind_some,List.tail_cons]
 rw [if_pos (show yu 8 (t.length+1) from yR (l:=k :: t) (by unfold zG; simp; omega)),h1 _ (by show zG _; unfold zG; simp; omega)]
 simp only [Option.bind_some,yY,pu hfk]
 rw [show zN (k :: t)=k * zN t from rfl]
 have hc:cut d 0 (k * zN t)=some (d.take (k * zN t).toNat):=by
  unfold cut
  rw [if_pos (by omega)]; simp
 rw [hc]
 simp only [Option.bind_some]
 rw [h2 _ (by show zG _; unfold zG; simp; omega)]; rfl
def nt (t:List Int) (l:List TArray):Prop:=t.length ≤ 2∧l.length ≤ 1000∧∀ x ∈ l,x.Data.length ≤ 1000
def rg (t:List Int) (l:List TArray):List Int×List Int×Int:=if xi ((l.length:Int) :: t)=true then ((l.length:Int) :: t,(l.map (·.Data)).flatten,0) else ([],[],6)
theorem Pc (L:List Int→List Int→Option (Alt (List Int×List Int) (List Int×List Int))) (t:List Int) (l:List TArray) (hl:l.length ≤ 1000) (hc:∀ x ∈ l,x.Data.length ≤ 1000):∀ (r:List TArray) (j e:Nat) (acc:List Int),l.drop j=r→j ≤ l.length→acc.length ≤ j * 1000→
  uq L (r.length+1+e) t l j acc=uq L (1+e) t l l.length (acc++(r.map (·.Data)).flatten)
 | [],j,e,acc,hd,hj,ha=>by
   have h:=vN hd
   obtain rfl:j=l.length:=by omega
   rw [show ([]:List TArray).length+1+e=1+e by simp]
   simp
 | x :: r,j,e,acc,hd,hj,ha=>by
   obtain ⟨g1,g2,g3,g4,g5,g6⟩:=xZ hd
   have hx:=hc x (List.mem_of_getElem? g4)
   rw [show (x :: r).length+1+e=(r.length+1+e)+1 by simp; omega]
   conv=>lhs; simp only [uq]
   rw [if_pos g2,g3]
   simp only [Option.bind_some]
   rw [if_pos (yR (by unfold zG; simp; omega)),va g1 (by rw [wB]; omega),Pc L t l hl hc r (j+1) e _ g5 (by omega) (by simp; omega)]
   simp
theorem VQ (L:List Int→List Int→Option (Alt (List Int×List Int) (List Int×List Int))) (hL:∀ s d,lI s d→L s d=some (sN s d)) (t:List Int) (l:List TArray) (h:nt t l):
  ∃ N,oT L N t l=some (rg t l):=by
 obtain ⟨h1,h2,h3⟩:=h
 refine ⟨l.length+1,?_⟩
 unfold oT rg
 have key:=Pc L t l h2 h3 l 0 0 [] rfl (by omega) (by simp)
 refine key.trans ?_
 rw [show 1+0=0+1 by omega]
 simp only [uq]
 have hs:zG ((l.length:Int) :: t):=by unfold zG; simp; omega
 rw [if_neg (by omega),if_pos (show yu 8 (t.length+1) from yR hs),hL _ _ hs]
 simp only [Option.bind_some,sN,List.nil_append]
 split <;> rfl
def ip (op:Int) (s d:List Int):Prop:=zG s∧zG d
def vg (op:Int) (s d:List Int):Nat→Int→Except Int (List (List Int))
 | 0,k=> .ok []
 | m+1,k=>match vv op s d k with
   | .ok p=>match vg op s d m (k+1) with
     | .ok l=> .ok (p.2 :: l)
     | .error c=> .error c
   | .error c=> .error c
def eN (s:List Int) (acc:List Int):Except Int (List (List Int))→List Int×List Int×Int
 | .ok l=>(s,acc++l.flatten,0)
 | .error c=>([],[],c)
def MR (op:Int) (s d:List Int):List Int×List Int×Int:=match s with
 | []=>([],d,0)
 | n :: t=>eN (n :: t) [] (vg op (n :: t) d n.toNat 1)
def u7 (op:Int) (s d:List Int):List Int×List Int×Int:=if (1 ≤ op∧op ≤ 10)∧ym s d=true then MR op s d else ([],[],9)
theorem RB {op:Int} {d:List Int} {w:Nat}:∀ {i:Nat} {acc l:List Int},i * w ≤ d.length→acc.length=w→su op d w i acc= .ok l→l.length=w
 | 0,acc,l,hi,ha,h=>by simp only [su,Except.ok.injEq] at h; subst h; exact ha
 | i+1,acc,l,hi,ha,h=>by
   simp only [su] at h
   cases h1:xn op (yS d w i) acc with
   | error c=>rw [h1] at h; cases h
   | ok v=>
     rw [h1] at h
     have hi':=hi
     rw [Nat.add_mul,Nat.one_mul] at hi'
     exact RB (by omega) (by rw [dT h1 (by rw [uf hi,ha]),uf hi]) h
theorem fJ {op k:Int} {s d:List Int} (h:ym s d=true) (hk:s=[] ∨ ∃ n t,s=n :: t∧0 ≤ k∧k ≤ n) {p:List Int×List Int} (hp:vv op s d k= .ok p):p.1=s.tail∧(s=[] ∨ p.2.length=(zN s.tail).toNat)∧p.2.length ≤ 1000:=by
 obtain ⟨a1,a2,a3,a4,a5⟩:=yA h
 cases s with
 | nil=>
   simp only [vv,Except.ok.injEq] at hp
   subst hp
   exact ⟨rfl,.inl rfl,a4⟩
 | cons n t=>
   have hf:=(z5 h).2.1
   obtain ⟨n0,n1,p0,p1,t2⟩:=wv hf
   obtain ⟨n',t',e,k0,k1⟩:=hk.resolve_left (by simp)
   obtain ⟨rfl,rfl⟩:n=n'∧t=t':=by simpa using e
   by_cases c:k=0
   ·simp only [vv] at hp
    rw [if_pos c] at hp
    cases hn:sW op with
    | none=>rw [hn] at hp; cases hp
    | some v=>
      rw [hn] at hp
      simp only at hp
      split at hp
      ·rename_i cf
       simp only [Except.ok.injEq] at hp
       subst hp
       have:=((uJ t).1 cf).2.2
       simp only [List.tail_cons,List.length_replicate]
       exact ⟨trivial,.inr trivial,by omega⟩
      ·cases hp
   ·rw [pQ c] at hp
    obtain ⟨w,hw⟩:=Int.eq_ofNat_of_zero_le p0
    obtain ⟨j,hj⟩:=Int.eq_ofNat_of_zero_le (show 0 ≤ k - 1 by omega)
    have hlen:=ju h
    have hwt:(zN t).toNat=w:=by rw [hw]; rfl
    have hjw:(j+1) * w ≤ d.length:=by
     have e:((j+1:Nat):Int) * w ≤ n * w:=Int.mul_le_mul_of_nonneg_right (by omega) (by omega)
     rw [zN,hw] at hlen
     have:(((j+1) * w:Nat):Int) ≤ d.length:=by rw [hlen]; simpa using e
     omega
    have hrl:(yS d w j).length=w:=uf hjw
    have hjw':=hjw
    rw [Nat.add_mul,Nat.one_mul] at hjw'
    rw [hwt,show (k - 1).toNat=j by omega] at hp
    cases hr:su op d w j (yS d w j) with
    | error c=>rw [hr] at hp; cases hp
    | ok l=>
      rw [hr] at hp
      simp only [yO,Except.ok.injEq,List.nil_append] at hp
      subst hp
      have:=RB (by omega) hrl hr
      simp only [List.tail_cons]
      exact ⟨trivial,.inr (by omega),by omega⟩
theorem Ux {op k c:Int} {s d:List Int} (hk:1 ≤ k) (h:vv op s d k= .error c):¬ c=0:=by
 cases s with
 | nil=>cases h
 | cons n t=>
   rw [pQ (by omega)] at h
   have key:∀ (w i:Nat) (acc:List Int),su op d w i acc= .error c→¬ c=0:=by
    intro w i
    induction i with
    | zero=>intro acc h; cases h
    | succ i ih=>
      intro acc h
      simp only [su] at h
      cases h1:xn op (yS d w i) acc with
      | error c'=>
        rw [h1] at h
        simp only [Except.error.injEq] at h
        subst h
        exact b6 h1
      | ok l=>rw [h1] at h; exact ih l h
   cases hr:su op d (zN t).toNat (k - 1).toNat (yS d (zN t).toNat (k - 1).toNat) with
   | error c'=>
     rw [hr] at h
     simp only [yO,Except.error.injEq] at h
     subst h
     exact key _ _ _ hr
   | ok l=>rw [hr] at h; cases h
section
variable (L1:Int→Option Bool) (L2:List Int→List Int→Option Bool) (L3:Int→List Int→List Int→Option (List Int×List Int×Int)) (h3:∀ op s d,sX op s d→L3 op s d=some (vr op s d))
 (L4:List Int→List Int→Int→Option (List Int×List Int)) (h4:∀ s d k,nI s d k→L4 s d k=some (rm s d k)) (L5:List Int→List TArray→Option (List Int×List Int×Int)) (h5:∀ t l,nt t l→L5 t l=some (rg t l))
include h3 h4 h5
theorem Pg (op n:Int) (t d:List Int) (h:ym (n :: t) d=true):∀ (m e:Nat) (k:Int) (acc:List TArray),1 ≤ k→k+m=n+1→(acc.length:Int)=k - 1→(∀ x ∈ acc,x.Data.length ≤ 1000)→
  qq L1 L2 L3 L4 L5 (m+1+e) op k (n :: t) d acc=some (eN (n :: t) (acc.map (·.Data)).flatten (vg op (n :: t) d m k))
 | 0,e,k,acc,hk,hm,ha,hc=>by
   have hf:=(z5 h).2.1
   obtain ⟨n0,n1,p0,p1,t2⟩:=wv hf
   rw [show 0+1+e=e+1 by omega]
   simp only [qq]
   rw [show idx (n :: t) 0=some n from rfl]
   simp only [Option.bind_some]
   rw [if_neg (by omega),pj]
   simp only [Option.bind_some]
   rw [h5 _ _ ⟨t2,by omega,hc⟩]
   have en:(acc.length:Int)=n:=by omega
   simp only [Option.bind_some,rg,en]
   rw [if_pos hf]
   simp [vg,eN]
 | m+1,e,k,acc,hk,hm,ha,hc=>by
   have hf:=(z5 h).2.1
   obtain ⟨n0,n1,p0,p1,t2⟩:=wv hf
   obtain ⟨f1,f2,f3,f4⟩:=SZ (op:=op) h ⟨hk,by omega⟩
   rw [show m+1+1+e=(m+1+e)+1 by omega]
   simp only [qq]
   rw [show idx (n :: t) 0=some n from rfl]
   simp only [Option.bind_some]
   rw [if_pos (by omega),h4 _ _ _ ⟨h,n,t,rfl,hk,by omega⟩]
   simp only [Option.bind_some,rm,List.tail_cons]
   rw [h3 _ _ _ f1]
   have e1:vr op (k :: t) (d.take (k * zN t).toNat)=tri (vv op (n :: t) d k):=by
    unfold vr
    rw [List.headD_cons,f2]
   simp only [Option.bind_some,e1,vg]
   cases hr:vv op (n :: t) d k with
   | error c=>exact if_neg (Ux hk hr)
   | ok p=>
     obtain ⟨q1,q2,q3⟩:=fJ h (.inr ⟨n,t,rfl,by omega,by omega⟩) hr
     refine (if_pos rfl).trans ?_
     have hrm:yu 48 (acc++[(⟨p.1,p.2⟩:TArray)]).length:=by
      unfold yu sm; simp; omega
     refine (if_pos hrm).trans ?_
     rw [show w64 (k+1)=k+1 from zY (by omega)]
     refine (Pg op n t d h m e (k+1) (acc++[⟨p.1,p.2⟩]) (by omega) (by omega) (by simp; omega) (fun x hx=>by
      rcases List.mem_append.1 hx with hx | hx
      ·exact hc x hx
      ·simp only [List.mem_singleton] at hx; subst hx; exact q3)).trans ?_
     cases vg op (n :: t) d m (k+1) <;> simp [eN]
end
theorem RY (L1:Int→Option Bool) (h1:∀ op,lN op→L1 op=some (xO op)) (L2:List Int→List Int→Option Bool) (h2:∀ s d,nv s d→L2 s d=some (sg s d))
  (L3:Int→List Int→List Int→Option (List Int×List Int×Int)) (h3:∀ op s d,sX op s d→L3 op s d=some (vr op s d))
  (L4:List Int→List Int→Int→Option (List Int×List Int)) (h4:∀ s d k,nI s d k→L4 s d k=some (rm s d k)) (L5:List Int→List TArray→Option (List Int×List Int×Int)) (h5:∀ t l,nt t l→L5 t l=some (rg t l))
  (op:Int) (s d:List Int) (h:ip op s d):∃ N,j6 L1 L2 L3 L4 L5 N op s d=some (u7 op s d):=by
 refine ⟨(s.headD 0).toNat+1,?_⟩
 unfold j6 u7
 rw [h1 _ trivial,h2 _ _ h]
 simp only [Option.bind_some,xO,sg]
 by_cases c:1 ≤ op∧op ≤ 10
 ·cases c1:ym s d with
  | false=>simp [c]
  | true=>
    rw [if_neg (by simp [c]),if_neg (by simp),if_pos (show (1 ≤ op∧op ≤ 10)∧true=true from ⟨c,rfl⟩)]
    cases s with
    | nil=>
      rw [if_pos (show (([]:List Int).length:Int)=0 from rfl),h3 _ _ _ c1]; rfl
    | cons n t=>
      have n0:=(wv (z5 c1).2.1).1
      rw [if_neg (by simp only [List.length_cons]; omega)]
      exact Pg L1 L2 L3 h3 L4 h4 L5 h5 op n t d c1 n.toNat 0 1 [] (by omega) (by omega) (by simp) (by simp)
 ·simp [c]
def tY (x:Int):Prop:=True
def vB (c:Int):D:= .ifaceS 75 [.int .i64 c]
def vD (r:Int×Int):Res Int:=if r.2=0 then .ok r.1 else .pan (vB r.2)
def wG (x:Int):Res Int:=vD (inR x)
theorem Vt (x:Int) (h:tY x):∃ N,oM N x=some (wG x):=by
 refine ⟨0,?_⟩
 unfold oM wG inR vD
 split
 ·rfl
 ·split <;> rfl
def uS (x y:Int):Prop:=zO x∧zO y
def rJ (x y:Int):Res Int:=vD (xc 1 x y)
theorem XS (L:Int→Option (Res Int)) (hL:∀ x,tY x→L x=some (wG x)) (x y:Int) (h:uS x y):∃ N,rY L N x y=some (rJ x y):=by
 have hm:=Z8 h.1 h.2
 obtain ⟨⟨x1,x2⟩,y1,y2⟩:=h
 refine ⟨0,?_⟩
 unfold rY rJ
 rw [hL _ trivial,zY (by omega)]
 have e:xc 1 x y=inR (x+y):=by simp [xc]
 rw [e]
 simp only [Option.bind_some,wG]
 cases vD (inR (x+y)) <;> rfl
def uY (x y:Int):Prop:=zO x∧zO y
def rX (x y:Int):Res Int:=vD (xc 2 x y)
theorem XI (L:Int→Option (Res Int)) (hL:∀ x,tY x→L x=some (wG x)) (x y:Int) (h:uY x y):∃ N,qC L N x y=some (rX x y):=by
 have hm:=Z8 h.1 h.2
 obtain ⟨⟨x1,x2⟩,y1,y2⟩:=h
 refine ⟨0,?_⟩
 unfold qC rX
 rw [hL _ trivial,zY (by omega)]
 have e:xc 2 x y=inR (x - y):=by simp [xc]
 rw [e]
 simp only [Option.bind_some,wG]
 cases vD (inR (x - y)) <;> rfl
def uU (x y:Int):Prop:=zO x∧zO y
def rZ (x y:Int):Res Int:=vD (xc 3 x y)
theorem Xt (L:Int→Option (Res Int)) (hL:∀ x,tY x→L x=some (wG x)) (x y:Int) (h:uU x y):∃ N,rL L N x y=some (rZ x y):=by
 have hm:=Z8 h.1 h.2
 obtain ⟨⟨x1,x2⟩,y1,y2⟩:=h
 refine ⟨0,?_⟩
 unfold rL rZ
 rw [hL _ trivial,zY (by omega)]
 have e:xc 3 x y=inR (x * y):=by simp [xc]
 rw [e]
 simp only [Option.bind_some,wG]
 cases vD (inR (x * y)) <;> rfl
def jA (x y:Int):Prop:=zO x∧zO y
def pq (x y:Int):Res Int:=if y=0 then .pan (vB 1) else .ok (flo x y)
theorem Wo (x y:Int) (h:jA x y):∃ N,pF N x y=some (pq x y):=by
 obtain ⟨hx,hy⟩:=h
 refine ⟨0,?_⟩
 have ht:=RF x y hx
 unfold pF pq flo
 by_cases h0:y=0
 ·rw [if_pos h0,if_pos h0]; rfl
 ·rw [if_neg h0,if_neg h0,if_neg h0,if_neg h0,zY (n:=Int.tdiv x y) (by omega),zY (n:=Int.tdiv x y - 1) (by omega)]
  split
  ·rfl
  ·split <;> rfl
def uT (x y:Int):Prop:=zO x∧zO y
def qj (x y:Int):Res Int:=vD (xc 4 x y)
theorem Xr (L1:Int→Int→Option (Res Int)) (h1:∀ x y,jA x y→L1 x y=some (pq x y)) (L2:Int→Option (Res Int)) (h2:∀ x,tY x→L2 x=some (wG x)) (x y:Int) (h:uT x y):∃ N,rD L1 L2 N x y=some (qj x y):=by
 refine ⟨0,?_⟩
 unfold rD qj
 rw [h1 _ _ h]
 show (some _).bind _=some (vD (if y=0 then (0,1) else inR (flo x y)))
 simp only [Option.bind_some,pq]
 by_cases h0:y=0
 ·rw [if_pos h0,if_pos h0]; rfl
 ·rw [if_neg h0,if_neg h0]
  simp only [Res.on]
  rw [h2 _ trivial]
  simp only [Option.bind_some,wG]
  cases vD (inR (flo x y)) <;> rfl
def t6 (x y:Int):Prop:=zO x∧zO y
def o6 (x y:Int):Int:=(xc 5 x y).1
theorem Vs (x y:Int) (h:t6 x y):∃ N,oV N x y=some (o6 x y):=by
 obtain ⟨hx,hy⟩:=h
 have hr:=Vg x y hx hy
 refine ⟨0,?_⟩
 unfold oV o6
 show _=some (if y=0 then x else res x y)
 by_cases h0:y=0
 ·rw [if_pos h0,if_pos h0]
 ·rw [if_neg h0,if_neg h0,if_neg h0]
  unfold res at hr ⊢
  by_cases c:Int.tmod x y=0
  ·rw [if_pos c,if_pos c,c]
  ·rw [if_neg c] at hr ⊢
   rw [if_neg c]
   by_cases d:(decide (Int.tmod x y < 0) == decide (y < 0))=false
   ·rw [if_pos d] at hr ⊢
    rw [if_pos d,zY (by omega)]
   ·rw [if_neg d,if_neg d]
def u2 (x y:Int):Prop:=zO x∧zO y
def rG (x y:Int):Int:=(xc 6 x y).1
theorem Xw (x y:Int) (h:u2 x y):∃ N,rr N x y=some (rG x y):=by
 refine ⟨0,?_⟩
 unfold rr rG
 show _=some (if (decide ((6:Int)=6) == decide (x < y))=true then (x,(0:Int)) else (y,0)).1
 by_cases c:x < y <;> simp [c] <;> omega
def uV (x y:Int):Prop:=zO x∧zO y
def rt (x y:Int):Int:=(xc 7 x y).1
theorem Y4 (x y:Int) (h:uV x y):∃ N,qK N x y=some (rt x y):=by
 refine ⟨0,?_⟩
 unfold qK rt
 show _=some (if (decide ((7:Int)=6) == decide (x < y))=true then (x,(0:Int)) else (y,0)).1
 by_cases c:x < y <;> simp [c] <;> omega
def rj (b:Bool):Prop:=True
def th (b:Bool):Int:=wx b
theorem Rv (b:Bool) (h:rj b):∃ N,kB N b=some (th b):=by
 refine ⟨0,?_⟩
 unfold kB th wx
 cases b <;> rfl
def u1 (x y:Int):Prop:=zO x∧zO y
def rC (x y:Int):Int:=(xc 8 x y).1
theorem Xs (L:Bool→Option Int) (hL:∀ b,rj b→L b=some (th b)) (x y:Int) (h:u1 x y):∃ N,ry L N x y=some (rC x y):=by
 refine ⟨0,?_⟩
 unfold ry rC
 rw [hL _ trivial]; rfl
def u0 (x y:Int):Prop:=zO x∧zO y
def qL (x y:Int):Int:=(xc 9 x y).1
theorem Xf (L:Bool→Option Int) (hL:∀ b,rj b→L b=some (th b)) (x y:Int) (h:u0 x y):∃ N,qu L N x y=some (qL x y):=by
 refine ⟨0,?_⟩
 unfold qu qL
 rw [hL _ trivial]; rfl
def uX (x y:Int):Prop:=zO x∧zO y
def qt (x y:Int):Int:=(xc 10 x y).1
theorem YX (L:Bool→Option Int) (hL:∀ b,rj b→L b=some (th b)) (x y:Int) (h:uX x y):∃ N,qg L N x y=some (qt x y):=by
 refine ⟨0,?_⟩
 unfold qg qt
 rw [hL _ trivial]; rfl
def iL:Prop:=True
def fc:Unit:=()
theorem VT (L1:Int→Int→Option (Res Int)) (h1:∀ x y,uS x y→L1 x y=some (rJ x y)) (L2:Int→Int→Option (Res Int)) (h2:∀ x y,uY x y→L2 x y=some (rX x y)) (L3:Int→Int→Option (Res Int)) (h3:∀ x y,uU x y→L3 x y=some (rZ x y)) (L4:Int→Int→Option (Res Int)) (h4:∀ x y,uT x y→L4 x y=some (qj x y)) (L5:Int→Int→Option Int) (h5:∀ x y,t6 x y→L5 x y=some (o6 x y)) (L6:Int→Int→Option Int) (h6:∀ x y,u2 x y→L6 x y=some (rG x y)) (L7:Int→Int→Option Int) (h7:∀ x y,uV x y→L7 x y=some (rt x y)) (L8:Int→Int→Option Int) (h8:∀ x y,u1 x y→L8 x y=some (rC x y)) (L9:Int→Int→Option Int) (h9:∀ x y,u0 x y→L9 x y=some (qL x y)) (L10:Int→Int→Option Int) (h10:∀ x y,uX x y→L10 x y=some (qt x y)) (h:iL):∃ N,jq L1 L2 L3 L4 L5 L6 L7 L8 L9 L10 N=some fc:=⟨0,rfl⟩
def pk (op:Int):Prop:=True
def vJ (op:Int):Nat:=if op=1 then 117 else if op=2 then 119 else if op=3 then 120 else if op=4 then 121 else if op=5 then 123 else if op=6 then 124 else if op=7 then 125 else if op=8 then 126 else if op=9 then 127 else if op=10 then 128 else 0
def uD (op:Int):Alt Unit Nat:=if 1 ≤ op∧op ≤ 10 then .b (vJ op) else .a ()
theorem Qs (L:Option Unit) (hL:iL→L=some fc) (op:Int) (h:pk op):∃ N,jX L N op=some (uD op):=by
 refine ⟨0,?_⟩
 unfold jX uD
 rw [hL trivial]
 simp only [Option.bind_some]
 by_cases c1:op < 1
 ·rw [if_pos c1,if_neg (by omega)]
 ·by_cases c2:10 < op
  ·rw [if_neg c1,if_pos c2,if_neg (by omega)]
  ·rw [if_neg c1,if_neg c2,if_pos (show 0 ≤ op∧op < 11 by omega),if_pos (show 1 ≤ op∧op ≤ 10 by omega)]
   have ho':op=1 ∨ op=2 ∨ op=3 ∨ op=4 ∨ op=5 ∨ op=6 ∨ op=7 ∨ op=8 ∨ op=9 ∨ op=10:=by omega
   rcases ho' with rfl | rfl | rfl | rfl | rfl | rfl | rfl | rfl | rfl | rfl <;> rfl
def qn (l:List Int):Prop:=zG l
def vk (l:List Int):Int×Bool:=if decide (l.length ≤ 3)&&l.all s6 then (l.foldl jf 1,decide (l.foldl jf 1 ≤ 1000)) else (0,false)
theorem Ur (l:List Int) (hl:zG l):∀ (r:List Int) (j e:Nat) (p:Int),l.drop j=r→
  tp (r.length+1+e) p l l.length j=some (if r.all s6=true then (r.foldl (fun p x=>w64 (p * x)) p,decide (r.foldl (fun p x=>w64 (p * x)) p ≤ 1000)) else (0,false))
 | [],j,e,p,hd=>by
   rw [show ([]:List Int).length+1+e=e+1 by simp; omega]
   simp only [tp]
   rw [if_neg (vN hd)]; rfl
 | x :: r,j,e,p,hd=>by
   obtain ⟨h1,h2,h3,h4,h5,h6⟩:=xZ hd
   have hb:l.length ≤ big:=by unfold zG at hl; rw [wB]; omega
   rw [show (x :: r).length+1+e=(r.length+1+e)+1 by simp; omega]
   simp only [tp]
   rw [if_pos h2,h3]
   simp only [Option.bind_some,va h1 hb,List.all_cons,s6,List.foldl_cons]
   by_cases c1:x < 0
   ·rw [if_pos c1]; simp; omega
   ·rw [if_neg c1]
    by_cases c2:1000 < x
    ·rw [if_pos c2]; simp; omega
    ·rw [if_neg c2,Ur l hl r (j+1) e _ h5]
     have e1:decide (0 ≤ x)=true:=by simp; omega
     have e2:decide (x ≤ 1000)=true:=by simp; omega
     simp only [e1,e2,Bool.true_and]; rfl
theorem VA (l:List Int) (h:qn l):∃ N,oK N l=some (vk l):=by
 refine ⟨l.length+1,?_⟩
 unfold oK vk
 by_cases c:(3:Int) < l.length
 ·have:¬ l.length ≤ 3:=by omega
  rw [if_pos c]; simp [this]
 ·have:l.length ≤ 3:=by omega
  rw [if_neg c]
  have q:=Ur l h l 0 0 1 rfl
  rw [show l.length+1+0=l.length+1 by rfl,show ((0:Nat):Int)=0 by rfl] at q
  rw [q]
  simp only [this,decide_true,Bool.true_and]
  rfl
def vO (s d:List Int):Prop:=zG s∧zG d
def xx (s d:List Int):Bool:=ym s d
theorem kQ (l:List Int):(vk l).2=xi l∧(xi l=true→(vk l).1=l.foldl wb 1):=by
 unfold vk xi
 by_cases c:l.length ≤ 3
 ·cases ha:l.all s6 with
  | false=>simp
  | true=>
    have hc:=dW l c ha
    simp only [c,decide_true,Bool.true_and,if_true]
    by_cases h:l.foldl jf 1 ≤ 1000
    ·rw [hc.1 h]; exact ⟨rfl,fun _=>rfl⟩
    ·have e:=hc.2 (by omega)
     rw [e]
     refine ⟨by simp [h],fun q=>by simp at q⟩
 ·simp [c]
theorem aj (L:List Int→Option (Int×Bool)) (l:List Int) (hl:zG l):∀ (r:List Int) (j e:Nat),l.drop j=r→tq L (r.length+1+e) l l.length j=some (r.all gm)
 | [],j,e,hd=>by
   rw [show ([]:List Int).length+1+e=e+1 by simp; omega]
   simp only [tq]
   rw [if_neg (vN hd)]; rfl
 | x :: r,j,e,hd=>by
   obtain ⟨h1,h2,h3,h4,h5,h6⟩:=xZ hd
   have hb:l.length ≤ big:=by unfold zG at hl; rw [wB]; omega
   rw [show (x :: r).length+1+e=(r.length+1+e)+1 by simp; omega]
   simp only [tq]
   rw [if_pos h2,h3]
   simp only [Option.bind_some,va h1 hb,List.all_cons,gm]
   by_cases c1:x < -3000000000
   ·rw [if_pos c1]; simp; omega
   ·rw [if_neg c1]
    by_cases c2:3000000000 < x
    ·rw [if_pos c2]; simp; omega
    ·rw [if_neg c2,aj L l hl r (j+1) e h5]
     have e1:decide (-3000000000 ≤ x)=true:=by simp; omega
     have e2:decide (x ≤ 3000000000)=true:=by simp; omega
     rw [e1,e2]; simp
theorem Vw (L:List Int→Option (Int×Bool)) (hL:∀ l,qn l→L l=some (vk l)) (s d:List Int) (h:vO s d):
  ∃ N,oD L N s d=some (xx s d):=by
 refine ⟨d.length+1,?_⟩
 unfold oD xx ym
 rw [hL _ h.1]
 simp only [Option.bind_some]
 obtain ⟨e1,e2⟩:=kQ s
 rw [e1]
 have q:=aj L d h.2 d 0 0 rfl
 rw [show d.length+1+0=d.length+1 by rfl,show ((0:Nat):Int)=0 by rfl] at q
 rw [q]
 cases hf:xi s with
 | false=>simp
 | true=>
   rw [e2 hf]
   by_cases c:s.foldl wb 1=(d.length:Int)
   ·simp [c]
   ·have c':¬ (d.length:Int)=s.foldl wb 1:=fun q=>c q.symm
    simp [c,c']
def xF (l:List Int):Prop:=zG l
def yH (l:List Int):List Int:=l
theorem lJ (l:List Int) (h:xF l):(∃ N,wN N l=some (yH l))∧(∃ N,uv N=some (yH [])):=by
 refine ⟨⟨0,?_⟩,0,rfl⟩
 unfold wN yH
 rw [if_pos (yR h)]
def lF (s d:List Int):Prop:=zG s∧zG d
def ib (s d:List Int):List Int×List Int:=(s,d)
theorem U8 (L:List Int→Option (List Int)) (hL:∀ l,xF l→L l=some (yH l)) (s d:List Int) (h:lF s d):∃ N,li L N s d=some (ib s d):=by
 refine ⟨0,?_⟩
 unfold li
 rw [hL _ h.1,hL _ h.2]; rfl
def xV (x a0:Int) (s d:List Int):Prop:=True
def wy (x a0:Int) (s d:List Int):Int:=x
theorem Tg (x a0:Int) (s d:List Int) (h:xV x a0 s d):∃ N,it N x a0 s d=some (wy x a0 s d):=⟨0,rfl⟩
def sE (op:Int):Prop:=True
def wR (op:Int):Res Int:=match sW op with
 | some v=> .ok v
 | none=> .pan (vB 1)
theorem Xg (op:Int) (h:sE op):∃ N,rx N op=some (wR op):=by
 refine ⟨0,?_⟩
 unfold rx wR sW
 by_cases c3:op=3
 ·simp [c3]
 by_cases c4:op=4
 ·simp [c4]
 by_cases c6:op=6
 ·simp [c6]
 by_cases c7:op=7
 ·simp [c7]
 by_cases c1:op=1
 ·simp [c1]
 by_cases c2:op=2
 ·simp [c2]
 by_cases c5:op=5
 ·simp [c5]
 ·simp [c1,c2,c3,c4,c5,c6,c7,vB]
def xz (l:List Int):Prop:=zG l
def yT (l:List Int):Res (List Int×Option Nat×List Int):=if xi l=true then .ok (l,some (vk l).1.toNat,[]) else .pan (vB 6)
theorem QE (L1:List Int→Option (Int×Bool)) (h1:∀ l,qn l→L1 l=some (vk l)) (L2:List Int→Option (List Int)) (h2:∀ l,xF l→L2 l=some (yH l))
  (l:List Int) (h:xz l):∃ N,jG L1 L2 N l=some (yT l):=by
 refine ⟨0,?_⟩
 unfold jG yT
 rw [h1 _ h,h2 _ h]
 simp only [Option.bind_some]
 obtain ⟨e1,e2⟩:=kQ l
 rw [e1]
 cases hf:xi l with
 | false=>simp [vB]
 | true=>
   have hr:=nE hf
   have e:=e2 hf
   rw [if_neg (by simp),if_pos (by unfold Za sm; rw [e]; omega)]
   simp [yH]
def mM (op:Int) (f:Nat) (s d:List Int) (k:Int):Prop:=((1 ≤ op∧op ≤ 10)∧f=vJ op)∧ym s d=true∧∃ n t,s=n :: t∧0 ≤ k∧k ≤ n
def tX:Except Int (List Int×List Int)→Res (List Int×List Int)
 | .ok p=> .ok p
 | .error c=> .pan (vB c)
def s8 (op:Int) (f:Nat) (s d:List Int) (k:Int):Res (List Int×List Int):=tX (vv op s d k)
def yv (f:Nat) (x y:Int):Prop:=(f=117 ∨ f=119 ∨ f=120 ∨ f=121 ∨ f=123 ∨ f=124 ∨ f=125 ∨ f=126 ∨ f=127 ∨ f=128)∧zO x∧zO y
def xq (f:Nat) (x y:Int):Res Int:=if f=117 then rJ x y else if f=119 then rX x y else if f=120 then rZ x y else if f=121 then qj x y else if f=123 then .ok (o6 x y) else if f=124 then .ok (rG x y) else if f=125 then .ok (rt x y) else if f=126 then .ok (rC x y) else if f=127 then .ok (qL x y) else if f=128 then .ok (qt x y) else .pan (vB 0)
theorem fR {op:Int} (ho:1 ≤ op∧op ≤ 10) {x y:Int} (hx:zO x) (hy:zO y):yv (vJ op) x y∧xq (vJ op) x y=vD (xc op x y):=by
 have ho':op=1 ∨ op=2 ∨ op=3 ∨ op=4 ∨ op=5 ∨ op=6 ∨ op=7 ∨ op=8 ∨ op=9 ∨ op=10:=by omega
 rcases ho' with rfl | rfl | rfl | rfl | rfl | rfl | rfl | rfl | rfl | rfl
 ·exact ⟨⟨by simp [vJ],hx,hy⟩,rfl⟩
 ·exact ⟨⟨by simp [vJ],hx,hy⟩,rfl⟩
 ·exact ⟨⟨by simp [vJ],hx,hy⟩,rfl⟩
 ·exact ⟨⟨by simp [vJ],hx,hy⟩,rfl⟩
 ·exact ⟨⟨by simp [vJ],hx,hy⟩,rfl⟩
 ·refine ⟨⟨by simp [vJ],hx,hy⟩,?_⟩
  show Res.ok (xc 6 x y).1=_
  have:(xc 6 x y).2=0:=by simp only [xc,show ¬ (6:Int)=1 by omega,show ¬ (6:Int)=2 by omega,show ¬ (6:Int)=3 by omega,show ¬ (6:Int)=4 by omega,show ¬ (6:Int)=5 by omega,show ¬ (6:Int)=8 by omega,show ¬ (6:Int)=9 by omega,show ¬ (6:Int)=10 by omega,if_false]; split <;> rfl
  unfold vD; rw [if_pos this]
 ·refine ⟨⟨by simp [vJ],hx,hy⟩,?_⟩
  show Res.ok (xc 7 x y).1=_
  have:(xc 7 x y).2=0:=by simp only [xc,show ¬ (7:Int)=1 by omega,show ¬ (7:Int)=2 by omega,show ¬ (7:Int)=3 by omega,show ¬ (7:Int)=4 by omega,show ¬ (7:Int)=5 by omega,show ¬ (7:Int)=8 by omega,show ¬ (7:Int)=9 by omega,show ¬ (7:Int)=10 by omega,if_false]; split <;> rfl
  unfold vD; rw [if_pos this]
 ·exact ⟨⟨by simp [vJ],hx,hy⟩,rfl⟩
 ·exact ⟨⟨by simp [vJ],hx,hy⟩,rfl⟩
 ·exact ⟨⟨by simp [vJ],hx,hy⟩,rfl⟩
theorem WR {d:List Int} {w i j:Nat} (hj:j < w):(yS d w i)[j]? =d[i * w+j]? :=by
 unfold yS
 rw [List.getElem?_take,if_pos hj,List.getElem?_drop]
section
variable (L1:Int→Option (Res Int)) (L2:List Int→Option (Res (List Int×Option Nat×List Int))) (L3:List Int→Option (List Int)) (h3:∀ l,xF l→L3 l=some (yH l))
 (Ld:Nat→Int→Int→Option (Res Int)) (f:Nat) (op:Int) (hD:∀ x y,zO x→zO y→Ld f x y=some (vD (xc op x y)))
include hD
theorem RH (K:Nat→Int→Int→List Int→List Int→List Int→Option (Res (List Int×List Int))) (s d:List Int) (w i:Nat) (hd:zG d) (hc:∀ x ∈ d,zO x) (hi:(i+1) * w ≤ d.length):
  ∀ (r t v:List Int) (e:Nat),(yS d w i).drop v.length=r→t.length=r.length→(∀ y ∈ t,zO y)→v.length+r.length=w→
  qG L1 L2 L3 Ld K (r.length+1+e) f w i w v.length s d (v++t)=match xn op r t with
   | .ok l=>K f w (w64 ((i:Int) - 1)) s d (v++l)
   | .error c=>some (.pan (vB c))
 | [],t,v,e,hr,ht,hin,hv=>by
   have:t=[]:=List.eq_nil_of_length_eq_zero (by simpa using ht)
   subst this
   rw [show ([]:List Int).length+1+e=e+1 by simp; omega]
   simp only [qG]
   rw [if_neg (by simp only [List.length_nil] at hv; omega)]
   simp [xn]
 | x :: r,t,v,e,hr,ht,hin,hv=>by
   cases t with
   | nil=>simp at ht
   | cons y t=>
     obtain ⟨g1,g2,g3,g4,g5,g6⟩:=xZ hr
     have hd':d.length ≤ 1048576:=hd
     have hi':=hi
     rw [Nat.add_mul,Nat.one_mul] at hi'
     rw [uf hi] at g1
     have hxd:d[i * w+v.length]? =some x:=by rw [← WR g1]; exact g4
     have hx:=hc x (List.mem_of_getElem? hxd)
     have hy:=hin y (by simp)
     have e0:(i:Int) * w=((i * w:Nat):Int):=by simp
     have e1:w64 (w64 ((i:Int) * w)+(v.length:Int))=((i * w+v.length:Nat):Int):=by
      rw [zY (n:=(i:Int) * w) (by omega),zY (by omega)]; omega
     have e2:0 ≤ (v.length:Int)∧(v.length:Int) < ((v++y :: t).length:Int):=by simp only [List.length_append,List.length_cons]; omega
     have e3:(v++y :: t)[v.length]? =some y:=by simp
     have e4:∀ z:Int,dM (v++y :: t) v.length z=some ((v++[z])++t):=by
      intro z
      rw [dM,if_pos (by simp)]
      simp
     rw [show (x :: r).length+1+e=(r.length+1+e)+1 by simp; omega]
     simp only [qG]
     rw [if_pos (by omega),e1,iU,hxd]
     simp only [Option.bind_some]
     rw [if_pos e2,Int.toNat_natCast,e3]
     simp only [Option.bind_some]
     rw [hD x y hx hy]
     simp only [Option.bind_some,vD,xn]
     by_cases c:(xc op x y).2=0
     ·rw [if_pos c,kg c]
      simp only [Res.on]
      rw [if_pos e2,e4]
      simp only [Option.bind_some]
      rw [va (n:=w) g1 (by rw [wB]; omega)]
      have key:=RH K s d w i hd hc hi r t (v++[(xc op x y).1]) e (by simpa using g5) (by simpa using ht) (fun z hz=>hin z (by simp [hz])) (by simp at hv ⊢; omega)
      simp only [List.length_append,List.length_cons,List.length_nil,Nat.zero_add] at key
      rw [key]
      cases xn op r t <;> simp
     ·rw [if_neg c,jb c]; rfl
include h3
theorem SQ (n:Int) (t d:List Int) (w:Nat) (hs:zG t) (hd:zG d) (hc:∀ x ∈ d,zO x) (M:Nat):∀ (i e:Nat) (acc:List Int),i ≤ 1000→i * w ≤ d.length→acc.length=w→(∀ x ∈ acc,zO x)→
  sC L1 L2 L3 Ld (w+1+M) (i+1+e) f w ((i:Int) - 1) (n :: t) d acc=some (tX (yO t [] (su op d w i acc)))
 | 0,e,acc,hb,hi,ha,hin=>by
   rw [show 0+1+e=e+1 by omega]
   simp only [sC]
   rw [if_neg (by omega),pj]
   simp only [Option.bind_some]
   rw [h3 _ hs]; simp [su,yO,tX,yH]
 | i+1,e,acc,hb,hi,ha,hin=>by
   rw [show i+1+1+e=(i+1+e)+1 by omega]
   simp only [sC]
   have e1:(((i+1:Nat):Int) - 1)=(i:Int):=by omega
   have hi':=hi
   rw [Nat.add_mul,Nat.one_mul] at hi'
   rw [e1,if_pos (by omega),ha]
   have hrl:=uf hi
   have key:=RH L1 L2 L3 Ld f op hD (sC L1 L2 L3 Ld (w+1+M) (i+1+e)) (n :: t) d w i hd hc hi (yS d w i) acc [] M rfl (by omega) hin (by simpa using hrl)
   rw [hrl] at key
   simp only [List.length_nil,List.nil_append] at key
   refine key.trans ?_
   simp only [su]
   cases h:xn op (yS d w i) acc with
   | error c=>rfl
   | ok l=>
     simp only
     rw [show w64 ((i:Int) - 1)=(i:Int) - 1 from zY (by omega)]
     exact SQ n t d w hs hd hc M i e l (by omega) (by omega) (by rw [dT h (by omega),hrl]) (bx (kZ hc) hin h)
end
theorem SB (L1:Int→Option (Res Int)) (L2:List Int→Option (Res (List Int×Option Nat×List Int))) (L3:List Int→Option (List Int)) (Ld:Nat→Int→Int→Option (Res Int)) (v:Int) (n:Nat) (hn:n ≤ 1000) (t:List Int):∀ (m j e:Nat),j+m=n→
  rR L1 L2 L3 Ld (m+1+e) v n j t (List.replicate j v)=some (.ok (t,List.replicate n v))
 | 0,j,e,h=>by
   rw [show 0+1+e=e+1 by omega]
   simp only [rR]
   rw [if_neg (by omega),show j=n by omega]
 | m+1,j,e,h=>by
   rw [show m+1+1+e=(m+1+e)+1 by omega]
   simp only [rR]
   have e1:List.replicate j v++[v]=List.replicate (j+1) v:=by rw [List.replicate_succ']
   rw [if_pos (by omega),e1,if_pos (yR (by unfold zG; simp; omega)),va (n:=n) (by omega) (by rw [wB]; omega)]
   exact SB L1 L2 L3 Ld v n hn t m (j+1) e (by omega)
theorem Xx {t:List Int} (h:xi t=true):yT t= .ok (t,some (zN t).toNat,[]):=by
 unfold yT
 rw [if_pos h,(kQ t).2 h,pu h]
theorem QR {t:List Int} (h:¬ xi t=true):yT t= .pan (vB 6):=by
 unfold yT
 rw [if_neg h]
theorem Qo (L1:Int→Option (Res Int)) (h1:∀ op,sE op→L1 op=some (wR op)) (L2:List Int→Option (Res (List Int×Option Nat×List Int))) (h2:∀ l,xz l→L2 l=some (yT l))
  (L3:List Int→Option (List Int)) (h3:∀ l,xF l→L3 l=some (yH l)) (Ld:Nat→Int→Int→Option (Res Int)) (hd:∀ f x y,yv f x y→Ld f x y=some (xq f x y))
  (op:Int) (f:Nat) (s d:List Int) (k:Int) (h:mM op f s d k):∃ N,jQ L1 L2 L3 Ld N op f s d k=some (s8 op f s d k):=by
 obtain ⟨⟨ho,rfl⟩,ha,n,t,rfl,k0,k1⟩:=h
 have hD:∀ x y,zO x→zO y→Ld (vJ op) x y=some (vD (xc op x y)):=fun x y hx hy=>by rw [hd _ _ _ (fR ho hx hy).1,(fR ho hx hy).2]
 obtain ⟨a1,a2,a3,a4,a5⟩:=yA ha
 have hf:=(z5 ha).2.1
 have hc:=(z5 ha).1
 obtain ⟨n0,n1,p0,p1,t2⟩:=wv hf
 have ht2:zG t:=by unfold zG; omega
 unfold jQ s8
 by_cases c:k=0
 ·subst c
  by_cases cf:xi t=true
  ·have hr:=((uJ t).1 cf).2.2
   refine ⟨(zN t).toNat+1,?_⟩
   rw [if_pos rfl,h1 _ trivial]
   simp only [Option.bind_some,wR,vv,if_true]
   cases sW op with
   | none=>rfl
   | some v=>
     simp only [Res.on]
     rw [pj]
     simp only [Option.bind_some]
     rw [h2 _ ht2,Xx cf]
     simp only [Option.bind_some]
     rw [if_pos cf]
     exact SB L1 L2 L3 Ld v (zN t).toNat (by omega) t (zN t).toNat 0 0 (by omega)
  ·refine ⟨0,?_⟩
   rw [if_pos rfl,h1 _ trivial]
   simp only [Option.bind_some,wR,vv,if_true]
   cases sW op with
   | none=>rfl
   | some v=>
     simp only [Res.on]
     rw [pj]
     simp only [Option.bind_some]
     rw [h2 _ ht2,QR cf]
     simp only [Option.bind_some]
     rw [if_neg cf]; rfl
 ·obtain ⟨w,hw⟩:=Int.eq_ofNat_of_zero_le p0
  obtain ⟨j,hj⟩:=Int.eq_ofNat_of_zero_le (show 0 ≤ k - 1 by omega)
  have hft:=Uf hf (by omega)
  have hlen:=ju ha
  have hwt:(zN t).toNat=w:=by rw [hw]; rfl
  have hjw:(j+1) * w ≤ d.length:=by
   have e:((j+1:Nat):Int) * w ≤ n * w:=Int.mul_le_mul_of_nonneg_right (by omega) (by omega)
   rw [zN,hw] at hlen
   have:(((j+1) * w:Nat):Int) ≤ d.length:=by rw [hlen]; simpa using e
   omega
  have hrl:(yS d w j).length=w:=uf hjw
  have hjw':=hjw
  rw [Nat.add_mul,Nat.one_mul] at hjw'
  refine ⟨w+1+(j+1),?_⟩
  rw [if_neg c,pQ c,show idx (n :: t) 0=some n from rfl]
  simp only [Option.bind_some]
  have e1:w64 (Int.tdiv (d.length:Int) n)=(w:Int):=by
   rw [hlen,zN,Int.mul_tdiv_cancel_left _ (by omega),hw,zY (by omega)]
  have e2:(j:Int) * w=((j * w:Nat):Int):=by simp
  have e3:k * w=(j:Int) * w+w:=by rw [show k=(j:Int)+1 by omega,Int.add_mul,Int.one_mul]
  rw [if_neg (by omega),e1,show w64 (k - 1)=(j:Int) by rw [zY (by omega)]; omega,e3,zY (n:=(j:Int) * w) (by omega),zY (n:=(j:Int) * w+w) (by omega),Yb a2 hjw]
  simp only [Option.bind_some]
  rw [h3 _ (by show zG _; unfold zG; rw [hrl]; omega)]
  simp only [Option.bind_some,yH]
  rw [show w64 (k - 2)=(j:Int) - 1 by rw [zY (by omega)]; omega,hwt,show (k - 1).toNat=j by omega]
  have key:=SQ L1 L2 L3 h3 Ld (vJ op) op hD n t d w ht2 a2 hc (j+1) j (w+1) (yS d w j) (by omega) (by omega) hrl (kZ hc)
  rw [show j+1+(w+1)=w+1+(j+1) by omega] at key
  exact key
def hM (op:Int) (s d:List Int):Prop:=pA op s d
def sI (op:Int) (s d:List Int):List Int×List Int×Int:=xy op s d
theorem fy (op:Int):(xO op=true∧uD op= .b (vJ op)∧1 ≤ op∧op ≤ 10) ∨ (xO op=false∧uD op= .a ()):=by
 unfold xO uD
 by_cases c:1 ≤ op∧op ≤ 10
 ·left; simp [c]
 ·right; rw [if_neg c]; simp only [decide_eq_false_iff_not]; exact ⟨c,trivial⟩
theorem UN (L1:Int→Option (Alt Unit Nat)) (h1:∀ op,pk op→L1 op=some (uD op)) (L2:List Int→List Int→Option Bool) (h2:∀ s d,vO s d→L2 s d=some (xx s d))
  (L3:List Int→List Int→Option (List Int×List Int)) (h3:∀ s d,lF s d→L3 s d=some (ib s d))
  (L4:Int→Nat→List Int→List Int→Int→Option (Res (List Int×List Int))) (h4:∀ op f s d k,mM op f s d k→L4 op f s d k=some (s8 op f s d k))
  (L7:D→Int→List Int→List Int→Option Int) (h7:∀ x a s d,xV x a s d→L7 (vB x) a s d=some (wy x a s d))
  (op:Int) (s d:List Int) (h:hM op s d):∃ N,mQ L1 L2 L3 L4 L7 N op s d=some (sI op s d):=by
 refine ⟨0,?_⟩
 unfold mQ sI xy
 rw [h1 _ trivial]
 simp only [Option.bind_some]
 rcases fy op with ⟨e1,e2,e3,e4⟩ | ⟨e1,e2⟩
 ·rw [e2]
  simp only [Alt.on]
  rw [h2 _ _ h]
  simp only [Option.bind_some,xx]
  cases c1:ym s d with
  | false=>simp
  | true=>
    rw [if_neg (by simp),if_pos (show (1 ≤ op∧op ≤ 10)∧true=true from ⟨⟨e3,e4⟩,rfl⟩)]
    cases s with
    | nil=>
      rw [if_pos (show (([]:List Int).length:Int)=0 from rfl),h3 _ _ h]; rfl
    | cons n t=>
      have n0:=(wv (z5 c1).2.1).1
      rw [if_neg (by simp only [List.length_cons]; omega)]
      unfold lE
      rw [show idx (n :: t) 0=some n from rfl]
      simp only [Option.bind_some,List.headD_cons]
      rw [h4 _ _ _ _ _ ⟨⟨⟨e3,e4⟩,rfl⟩,c1,n,t,rfl,n0,Int.le_refl n⟩]
      simp only [Option.bind_some,s8]
      cases vv op (n :: t) d n with
      | ok p=>rfl
      | error c=>
        simp only [tX,Res.on]
        rw [h7 _ _ _ _ trivial]; rfl
 ·rw [e2]
  simp only [xO,decide_eq_false_iff_not] at e1
  rw [if_neg (fun q=>e1 q.1)]; rfl
def f8 (op:Int) (s d:List Int):Prop:=ip op s d
def jW (op:Int) (s d:List Int):List Int×List Int×Int:=u7 op s d
section
variable (L1:Int→Option (Alt Unit Nat)) (L2:List Int→List Int→Option Bool) (L3:List Int→List Int→Option (List Int×List Int)) (L4:List Int→Option (Res (List Int×Option Nat×List Int)))
 (L5:Int→Nat→List Int→List Int→Int→Option (Res (List Int×List Int))) (h5:∀ op f s d k,mM op f s d k→L5 op f s d k=some (s8 op f s d k))
 (L7:D→Int→List Int→List Int→Option Int) (h7:∀ x a s d,xV x a s d→L7 (vB x) a s d=some (wy x a s d))
include h5 h7
theorem QM (op n:Int) (t d s':List Int) (ho:1 ≤ op∧op ≤ 10) (h:ym (n :: t) d=true):∀ (m e:Nat) (k:Int) (acc:List Int),1 ≤ k→k+m=n+1→(acc.length:Int)=(k - 1) * zN t→
  tR L1 L2 L3 L4 L5 L7 (m+1+e) op (vJ op) k (n :: t) d s' acc=some (eN s' acc (vg op (n :: t) d m k))
 | 0,e,k,acc,hk,hm,ha=>by
   rw [show 0+1+e=e+1 by omega]
   simp only [tR]
   rw [show idx (n :: t) 0=some n from rfl]
   simp only [Option.bind_some]
   rw [if_neg (by omega)]
   simp [vg,eN]
 | m+1,e,k,acc,hk,hm,ha=>by
   have hf:=(z5 h).2.1
   obtain ⟨n0,n1,p0,p1,t2⟩:=wv hf
   rw [show m+1+1+e=(m+1+e)+1 by omega]
   simp only [tR]
   rw [show idx (n :: t) 0=some n from rfl]
   simp only [Option.bind_some]
   rw [if_pos (by omega),h5 _ _ _ _ _ ⟨⟨ho,rfl⟩,h,n,t,rfl,by omega,by omega⟩]
   simp only [Option.bind_some,s8,vg]
   cases hr:vv op (n :: t) d k with
   | error c=>
     simp only [tX,Res.on]
     rw [h7 _ _ _ _ trivial]; rfl
   | ok p=>
     obtain ⟨q1,q2,q3⟩:=fJ h (.inr ⟨n,t,rfl,by omega,by omega⟩) hr
     have q2':=q2.resolve_left (by simp)
     simp only [List.tail_cons] at q2'
     simp only [tX,Res.on]
     have hkn:(k - 1) * zN t ≤ n * zN t:=Int.mul_le_mul_of_nonneg_right (by omega) p0
     rw [if_pos (yR (by unfold zG; simp; omega)),show w64 (k+1)=k+1 from zY (by omega),QM op n t d s' ho h m e (k+1) _ (by omega) (by omega) (by
      rw [List.length_append,q2',show k+1 - 1=(k - 1)+1 by omega,Int.add_mul,Int.one_mul]; omega)]
     cases vg op (n :: t) d m (k+1) <;> simp [eN]
end
theorem RN (L1:Int→Option (Alt Unit Nat)) (h1:∀ op,pk op→L1 op=some (uD op)) (L2:List Int→List Int→Option Bool) (h2:∀ s d,vO s d→L2 s d=some (xx s d))
  (L3:List Int→List Int→Option (List Int×List Int)) (h3:∀ s d,lF s d→L3 s d=some (ib s d)) (L4:List Int→Option (Res (List Int×Option Nat×List Int))) (h4:∀ l,xz l→L4 l=some (yT l))
  (L5:Int→Nat→List Int→List Int→Int→Option (Res (List Int×List Int))) (h5:∀ op f s d k,mM op f s d k→L5 op f s d k=some (s8 op f s d k))
  (L7:D→Int→List Int→List Int→Option Int) (h7:∀ x a s d,xV x a s d→L7 (vB x) a s d=some (wy x a s d))
  (op:Int) (s d:List Int) (h:f8 op s d):∃ N,jY L1 L2 L3 L4 L5 L7 N op s d=some (jW op s d):=by
 refine ⟨(s.headD 0).toNat+1,?_⟩
 unfold jY jW u7
 rw [h1 _ trivial]
 simp only [Option.bind_some]
 rcases fy op with ⟨e1,e2,e3,e4⟩ | ⟨e1,e2⟩
 ·rw [e2]
  simp only [Alt.on]
  rw [h2 _ _ h]
  simp only [Option.bind_some,xx]
  cases c1:ym s d with
  | false=>simp
  | true=>
    rw [if_neg (by simp),if_pos (show (1 ≤ op∧op ≤ 10)∧true=true from ⟨⟨e3,e4⟩,rfl⟩)]
    cases s with
    | nil=>
      rw [if_pos (show (([]:List Int).length:Int)=0 from rfl),h3 _ _ h]; rfl
    | cons n t=>
      have n0:=(wv (z5 c1).2.1).1
      rw [if_neg (by simp only [List.length_cons]; omega)]
      unfold io
      rw [h4 _ h.1,Xx (z5 c1).2.1]
      simp only [Option.bind_some,Res.on]
      exact QM L1 L2 L3 L4 L5 h5 L7 h7 op n t d (n :: t) ⟨e3,e4⟩ c1 n.toNat 0 1 [] (by omega) (by omega) (by simp)
 ·rw [e2]
  simp only [xO,decide_eq_false_iff_not] at e1
  rw [if_neg (fun q=>e1 q.1)]; rfl
def cyc (d:List Int):Nat→Nat→List Int
 | _,0=>[]
 | j,m+1=>d.getD (j % d.length) 0 :: cyc d (j+1) m
theorem Fc {d:List Int} (h:0 < d.length) (j:Nat):idx d (Int.tmod (j:Int) (d.length:Int))=some (d.getD (j % d.length) 0):=by
 rw [show Int.tmod (j:Int) (d.length:Int)=((j % d.length:Nat):Int) from (Int.ofNat_tmod j d.length).symm,iU,List.getD_eq_getElem?_getD,List.getElem?_eq_getElem (Nat.mod_lt _ h)]
 rfl
def Oj (d d':List Int):Except Int (List Int×List Int):=
 if xi d=true then (if 0 < zN d∧d'.length=0 then .error 3 else .ok (d,cyc d' 0 (zN d).toNat)) else .error 6
def YZ (s d s' d':List Int):Except Int (List Int×List Int):=
 if 1 < s.length then .error 2 else if 3 < d.length then .error 6 else if (d.any fun x=>decide (x < 0))=true then .error 1 else Oj d d'
theorem hG {l:List Int} (h:xi l=true):yT l= .ok (l,some (zN l).toNat,[]):=by
 unfold yT
 rw [if_pos h,(kQ l).2 h,pu h]
theorem dB {l:List Int} (h:¬ xi l=true):yT l= .pan (vB 6):=if_neg h
section
variable (L1:List Int→Option (Res (List Int×Option Nat×List Int))) (h1:∀ l,xz l→L1 l=some (yT l))
 (L2:List Int→Option (Int×Bool)) (h2:∀ l,qn l→L2 l=some (vk l))
theorem T8 (s' d' S:List Int) (n:Nat) (hn:n ≤ 1000):∀ (m j e:Nat) (acc:List Int),j+m=n→(0 < m→0 < d'.length)→acc.length=j→
  wh L1 L2 (m+1+e) n j s' d' S acc=some (.ok (S,acc++cyc d' j m))
 | 0,j,e,acc,hj,hp,ha=>by
   rw [show 0+1+e=e+1 by omega]
   simp only [wh]
   rw [if_neg (by omega)]; simp [cyc]
 | m+1,j,e,acc,hj,hp,ha=>by
   rw [show m+1+1+e=(m+1+e)+1 by omega]
   simp only [wh]
   have hd:=hp (by omega)
   rw [if_pos (by omega),if_neg (by omega),Fc hd]
   simp only [Option.bind_some]
   rw [if_pos (yR (by unfold zG; simp only [List.length_append,List.length_cons,List.length_nil]; omega)),va (n:=n) (by omega) (by rw [wB]; omega),
    T8 s' d' S n hn m (j+1) e _ (by omega) (fun _=>hd) (by simp only [List.length_append,List.length_cons,List.length_nil]; omega)]
   simp [cyc]
include h1 h2 in
theorem TP (s d s' d':List Int) (hd:d.length ≤ 3) (N:Nat) (hN:1001 ≤ N):∀ (r:List Int) (j e:Nat),d.drop j=r→
  uL L1 L2 N (r.length+1+e) d d.length j s d s' d'=some (tX (if (r.any fun x=>decide (x < 0))=true then .error 1 else Oj d d'))
 | [],j,e,hr=>by
   rw [show ([]:List Int).length+1+e=e+1 by simp; omega]
   simp only [uL]
   have hs:zG d:=by unfold zG; omega
   rw [if_neg (vN hr),h1 _ hs]
   simp only [Option.bind_some]
   rw [if_neg (show ¬ (([]:List Int).any fun x=>decide (x < 0))=true by simp)]
   unfold Oj
   cases hf:xi d with
   | false=>rw [dB (by rw [hf]; simp)]; rfl
   | true=>
     rw [hG hf]
     simp only [Res.on,Option.bind_some]
     rw [h2 _ hs,if_pos trivial]
     simp only [Option.bind_some,(kQ d).2 hf,pu hf]
     have hr:=nE hf
     rw [pu hf] at hr
     obtain ⟨p,hp⟩:=Int.eq_ofNat_of_zero_le hr.1
     obtain ⟨e,rfl⟩:∃ e,N=p+1+e:=⟨N - (p+1),by omega⟩
     rw [hp]
     simp only [Int.toNat_natCast,Int.ofNat_eq_natCast]
     have key:∀ q:Int,q=p→(0 < p→0 < d'.length)→wh L1 L2 (p+1+e) q 0 s' d' d []=some (.ok (d,cyc d' 0 p)):=fun q hq h=>by
      subst hq
      have q:=T8 L1 L2 s' d' d p (by omega) p 0 e [] (by omega) h rfl
      simpa using q
     by_cases c0:(p:Int)=0
     ·rw [if_pos c0,key 0 c0.symm (by omega),if_neg (fun q=>by have:=q.1; omega)]; rfl
     ·rw [if_neg c0,if_pos (by omega)]
      by_cases c':d'.length=0
      ·rw [if_pos (by omega),if_pos ⟨by omega,c'⟩]; rfl
      ·rw [if_neg (by omega),key _ rfl (by omega),if_neg (fun q=>c' q.2)]; rfl
 | x :: r,j,e,hr=>by
   obtain ⟨q1,q2,q3,q4,q5,q6⟩:=xZ hr
   rw [show (x :: r).length+1+e=(r.length+1+e)+1 by simp; omega]
   simp only [uL]
   rw [if_pos q2,q3]
   simp only [Option.bind_some,List.any_cons]
   by_cases c:x < 0
   ·rw [if_pos c]; simp [c,tX,vB]
   ·rw [if_neg c,va q1 (by rw [wB]; omega),TP s d s' d' hd N hN r (j+1) e q5]
    simp [c]
def jF (s d s' d':List Int):Prop:=True
def lM (s d s' d':List Int):Res (List Int×List Int):=tX (YZ s d s' d')
include h1 h2 in
theorem W0 (s d s' d':List Int) (h:jF s d s' d'):∃ N,pO L1 L2 N s d s' d'=some (lM s d s' d'):=by
 refine ⟨1005,?_⟩
 unfold pO lM YZ
 by_cases c:1 < s.length
 ·rw [if_pos (by omega),if_pos c]; rfl
 ·rw [if_neg (by omega),if_neg c]
  by_cases c':3 < d.length
  ·rw [if_pos (by omega),if_pos c']; rfl
  ·rw [if_neg (by omega),if_neg c']
   have q:=TP L1 h1 L2 h2 s d s' d' (by omega) 1005 (by omega) d 0 (1004 - d.length) rfl
   rw [show d.length+1+(1004 - d.length)=1005 by omega] at q
   exact q
end
def od (s d:List Int):Prop:=ym s d=true
def vp (s d:List Int):Res Int:=if s.length=0 then .ok (d.headD 0) else .pan (vB 2)
theorem X8 (s d:List Int) (h:od s d):∃ N,py N s d=some (vp s d):=by
 refine ⟨0,?_⟩
 unfold py vp
 by_cases c:s.length=0
 ·obtain ⟨x,rfl,hx⟩:=pY h c
  rw [if_pos (by omega),if_pos c]; rfl
 ·rw [if_neg (by omega),if_neg c]; rfl
def oa (l:List Int):Prop:=zG l
def pK (l:List Int):List Int×List Int:=([(l.length:Int)],l)
theorem WV (L:List Int→Option (List Int)) (hL:∀ l,xF l→L l=some (yH l)) (l:List Int) (h:oa l):∃ N,pP L N l=some (pK l):=by
 refine ⟨0,?_⟩
 unfold pP pK
 rw [hL _ h]; rfl
def pp (s d:List Int):Prop:=zG d
def ax (s d:List Int):List Int×List Int:=if s.length=0 then ([(d.length:Int)],d) else (s,d)
def axA (s d:List Int):Alt (List Int×List Int) (List Int×List Int):=if s.length=0 then .a (ax s d) else .b (ax s d)
def uF (s d:List Int):Alt (List Int×List Int) (List Int×List Int):=axA s d
theorem UD (L:List Int→Option (List Int×List Int)) (hL:∀ l,oa l→L l=some (pK l)) (s d:List Int) (h:pp s d):∃ N,n6 L N s d=some (uF s d):=by
 refine ⟨0,?_⟩
 unfold n6 uF axA ax
 by_cases c:s.length=0
 ·rw [if_pos (by omega),if_pos c,if_pos c,hL _ h]; rfl
 ·rw [if_neg (by omega),if_neg c,if_neg c]
def sx (n:Int) (l:List Int):Prop:=l.length ≤ 4∧¬ l=[]
def uK (n:Int) (l:List Int):List Int:=n :: l.tail
theorem XF (n:Int) (l:List Int) (h:sx n l):∃ N,qy N n l=some (uK n l):=by
 refine ⟨0,?_⟩
 unfold qy uK
 obtain ⟨h1,h2⟩:=h
 cases l with
 | nil=>exact absurd rfl h2
 | cons x t=>
   rw [pj]
   simp only [Option.bind_some,List.tail_cons]
   rw [if_pos (by simp only [List.length_cons] at h1; unfold yu sm; omega)]
theorem aV (s d:List Int):axA s d= .a (ax s d) ∨ axA s d= .b (ax s d):=by
 unfold axA; split <;> simp
theorem PA (s d:List Int):(ax s d).2=d:=by unfold ax; split <;> rfl
theorem TG {s d:List Int} (h:ym s d=true):∃ n t,(ax s d).1=n :: t∧ym (n :: t) d=true:=by
 cases s with
 | nil=>
   obtain ⟨x,rfl,hx⟩:=pY h rfl
   refine ⟨1,[],rfl,fV (by decide) (by simp [zN]) ?_⟩
   intro y hy; simp at hy; subst hy; exact hx
 | cons n t=>exact ⟨n,t,rfl,h⟩
def aW (d:List Int) (w:Nat) (n k:Int):List Int:=if 0 ≤ k∧k < n then yS d w k.toNat else List.replicate w 0
def nz (d:List Int) (w:Nat) (n:Int):Int→Nat→List Int
 | _,0=>[]
 | k,m+1=>aW d w n k++nz d w n (k+1) m
theorem XN {d:List Int} {w:Nat} {n k:Int} (hd:(d.length:Int)=n * w) (h0:0 ≤ k) (h1:k < n):(k.toNat+1) * w ≤ d.length:=by
 obtain ⟨k,rfl⟩:=Int.eq_ofNat_of_zero_le h0
 obtain ⟨n,rfl⟩:=Int.eq_ofNat_of_zero_le (show 0 ≤ n by omega)
 have e:d.length=n * w:=by exact_mod_cast hd
 rw [e]
 exact Nat.mul_le_mul_right _ (by simp only [Int.toNat_natCast,Int.ofNat_eq_natCast] at *; omega)
theorem K9 {d:List Int} {w:Nat} {n:Int} (hd:(d.length:Int)=n * w) (k:Int):(aW d w n k).length=w:=by
 unfold aW
 split
 ·rename_i h; exact uf (XN hd h.1 h.2)
 ·simp
def vz (s d:List Int) (k:Int) (c:Nat):Except Int (List Int×List Int):=
 if xi ((c:Int) :: s.tail)=true then .ok ((c:Int) :: s.tail,nz d (zN s.tail).toNat (s.headD 0) k c) else .error 6
theorem gz (n:Int) (t d:List Int) (k:Int) (c:Nat):vz (n :: t) d k c=if xi ((c:Int) :: t)=true then .ok ((c:Int) :: t,nz d (zN t).toNat n k c) else .error 6:=rfl
theorem iO {n:Int} {t d:List Int} (h:ym (n :: t) d=true):∃ w:Nat,zN t=(w:Int)∧(d.length:Int)=n * w∧zG d∧0 ≤ n∧n ≤ 1000∧t.length ≤ 2∧n * w ≤ 1000:=by
 obtain ⟨b1,b2,b3,b4,b5⟩:=wv (z5 h).2.1
 obtain ⟨w,hw⟩:=Int.eq_ofNat_of_zero_le b3
 have hl:=ju h
 rw [zN,hw] at hl
 exact ⟨w,hw,hl,(yA h).2.1,b1,b2,b5,by rw [← hl]; have:=(yA h).2.2.2.1; omega⟩
def dU (f:Int) (s d s' d':List Int):Except Int (List Int×List Int):=
 if s.length=0 then
  (if f=2 then (if d.headD 0 < 0 then vz (ax s' d').1 d' ((ax s' d').1.headD 0+d.headD 0) (-(d.headD 0)).toNat else vz (ax s' d').1 d' 0 (d.headD 0).toNat)
   else if (ax s' d').1.headD 0 ≤ d.headD 0 then vz (ax s' d').1 d' 0 0
   else if (ax s' d').1.headD 0 ≤ -(d.headD 0) then vz (ax s' d').1 d' 0 0
   else if d.headD 0 < 0 then vz (ax s' d').1 d' 0 ((ax s' d').1.headD 0+d.headD 0).toNat
   else vz (ax s' d').1 d' (d.headD 0) ((ax s' d').1.headD 0 - d.headD 0).toNat)
 else .error 2
theorem bS {f:Int} {s s' d':List Int} {m n:Int} {t:List Int} (c:s.length=0) (e:ax s' d'=(n :: t,d')):dU f s [m] s' d'=
  if f=2 then (if m < 0 then vz (n :: t) d' (n+m) (-m).toNat else vz (n :: t) d' 0 m.toNat) else if n ≤ m then vz (n :: t) d' 0 0 else if n ≤ -m then vz (n :: t) d' 0 0 else if m < 0 then vz (n :: t) d' 0 (n+m).toNat else vz (n :: t) d' m (n - m).toNat:=by
 unfold dU
 rw [if_pos c,e]; rfl
section
variable (L1:List Int→List Int→Option (Res Int)) (h1:∀ s d,od s d→L1 s d=some (vp s d))
 (L2:List Int→List Int→Option (Alt (List Int×List Int) (List Int×List Int))) (h2:∀ s d,pp s d→L2 s d=some (uF s d))
 (L3:Int→List Int→Option (List Int)) (h3:∀ n l,sx n l→L3 n l=some (uK n l))
 (L4:List Int→Option (Res (List Int×Option Nat×List Int))) (h4:∀ l,xz l→L4 l=some (yT l))
theorem bT (n:Int) (s d S:List Int) (w:Nat) (hl:(d.length:Int)=n * w) (hw1:w ≤ 1000) (hd:d.length ≤ 1000) (a x9 want:Int) (want1:0 ≤ want∧want ≤ 1000) (ha:-5000000000 ≤ a∧a ≤ 5000000000):∀ (m:Nat) (k:Int) (e:Nat) (acc:List Int),k+m=a+want→a ≤ k→(0 < m→x9=w)→acc.length+m * w ≤ 1000 * 1000→
  xg L1 L2 L3 L4 (m+1+e) n want x9 a k s d S acc=some (.ok (S,acc++nz d w n k m))
 | 0,k,e,acc,hk,hak,hx,hac=>by
   rw [show 0+1+e=e+1 by omega]
   simp only [xg]
   rw [zY (n:=a+want) (by omega),if_neg (by omega)]; simp [nz]
 | m+1,k,e,acc,hk,hak,hx,hac=>by
   rw [show m+1+1+e=(m+1+e)+1 by omega]
   simp only [xg]
   have hx':=hx (by omega)
   subst hx'
   rw [Nat.add_mul,Nat.one_mul] at hac
   have e1:w64 (k+1)=k+1:=zY (by omega)
   have step:∀ r:List Int,r=aW d w n k→(if yu 8 (acc++r).length then xg L1 L2 L3 L4 (m+1+e) n want w a (k+1) s d S (acc++r) else none)=some (.ok (S,acc++nz d w n k (m+1))):=by
    intro r hr
    have hrl:r.length=w:=by rw [hr]; exact K9 hl k
    rw [if_pos (yR (by unfold zG; simp only [List.length_append,hrl]; omega)),bT n s d S w hl hw1 hd a w want want1 ha m (k+1) e _ (by omega) (by omega) (fun _=>rfl) (by simp only [List.length_append,hrl]; omega),hr]
    simp only [nz,List.append_assoc]
   rw [zY (n:=a+want) (by omega),if_pos (by omega),e1]
   by_cases c0:k < 0
   ·rw [if_pos c0,Int.toNat_natCast]
    have q:=step (List.replicate w 0) (by unfold aW; rw [if_neg (by omega)])
    rw [← q]
    by_cases hr:yu 8 (acc++List.replicate w 0).length
    ·rw [if_pos ⟨by omega,hr⟩,if_pos hr]
    ·rw [if_neg (fun q=>hr q.2),if_neg hr]
   ·rw [if_neg c0]
    by_cases c1:n ≤ k
    ·rw [if_pos c1,Int.toNat_natCast]
     have q:=step (List.replicate w 0) (by unfold aW; rw [if_neg (by omega)])
     rw [← q]
     by_cases hr:yu 8 (acc++List.replicate w 0).length
     ·rw [if_pos ⟨by omega,hr⟩,if_pos hr]
     ·rw [if_neg (fun q=>hr q.2),if_neg hr]
    ·have hrow:=XN hl (show 0 ≤ k by omega) (show k < n by omega)
     obtain ⟨i,rfl⟩:=Int.eq_ofNat_of_zero_le (show 0 ≤ k by omega)
     have hrow':=hrow
     simp only [Int.toNat_natCast,Int.ofNat_eq_natCast] at hrow'
     rw [Nat.add_mul,Nat.one_mul] at hrow'
     have ee:(i:Int) * w=((i * w:Nat):Int):=by simp
     have ee2:((i:Int)+1) * w=(i:Int) * w+w:=by rw [Int.add_mul,Int.one_mul]
     rw [if_neg c1]
     simp only [Int.ofNat_eq_natCast] at *
     rw [ee2,zY (n:=(i:Int) * w) (by omega),zY (n:=(i:Int) * w+w) (by omega),Yb (by unfold zG; omega) (by simpa using hrow)]
     simp only [Option.bind_some]
     exact step _ (by unfold aW; rw [if_pos ⟨by omega,by omega⟩,Int.toNat_natCast])
theorem SI (n:Int) (s d S:List Int) (w:Nat) (hl:(d.length:Int)=n * w) (hw1:w ≤ 1000) (hd:d.length ≤ 1000) (a x9 want:Int) (want1:0 ≤ want∧want ≤ 1000) (ha:-5000000000 ≤ a∧a ≤ 5000000000):∀ (m:Nat) (k:Int) (e:Nat) (acc:List Int),k+m=a+want→a ≤ k→(0 < m→x9=w)→acc.length+m * w ≤ 1000 * 1000→
  xN L1 L2 L3 L4 (m+1+e) n want x9 a k s d S acc=some (.ok (S,acc++nz d w n k m))
 | 0,k,e,acc,hk,hak,hx,hac=>by
   rw [show 0+1+e=e+1 by omega]
   simp only [xN]
   rw [zY (n:=a+want) (by omega),if_neg (by omega)]; simp [nz]
 | m+1,k,e,acc,hk,hak,hx,hac=>by
   have hx':=hx (by omega)
   have h1:=bT L1 L2 L3 L4 n s d S w hl hw1 hd a x9 want want1 ha (m+1) k e acc hk hak hx hac
   rw [show m+1+1+e=(m+1+e)+1 by omega] at h1 ⊢
   simp only [xN]
   simp only [xg] at h1
   rw [Nat.add_mul,Nat.one_mul] at hac
   have e1:w64 (k+1)=k+1:=zY (by omega)
   have hlt:k < a+want:=by omega
   rw [← h1,zY (n:=a+want) (by omega),e1,if_pos hlt,if_pos hlt]
   have ih:∀ r:List Int,r.length=w→xN L1 L2 L3 L4 (m+1+e) n want x9 a (k+1) s d S (acc++r)=xg L1 L2 L3 L4 (m+1+e) n want x9 a (k+1) s d S (acc++r):=fun r hr=>by
    rw [SI n s d S w hl hw1 hd a x9 want want1 ha m (k+1) e _ (by omega) (by omega) (fun _=>hx') (by simp only [List.length_append,hr]; omega),bT L1 L2 L3 L4 n s d S w hl hw1 hd a x9 want want1 ha m (k+1) e _ (by omega) (by omega) (fun _=>hx') (by simp only [List.length_append,hr]; omega)]
   rw [ih (List.replicate x9.toNat 0) (by subst hx'; simp)]
theorem Jx (M:Nat) (n x9 a:Int) (s d S acc:List Int) (h1:-4000000000 ≤ a) (h2:a ≤ 4000000000):xg L1 L2 L3 L4 (M+1) n ((0:Nat):Int) x9 a a s d S acc=some (.ok (S,acc)):=by
 simp only [xg]
 rw [zY (n:=a+((0:Nat):Int)) (by omega),if_neg (by omega)]
theorem JC (M:Nat) (n x9 a:Int) (s d S acc:List Int) (h1:-4000000000 ≤ a) (h2:a ≤ 4000000000):xN L1 L2 L3 L4 (M+1) n ((0:Nat):Int) x9 a a s d S acc=some (.ok (S,acc)):=by
 simp only [xN]
 rw [zY (n:=a+((0:Nat):Int)) (by omega),if_neg (by omega)]
def gQ (s d s' d':List Int):Prop:=ym s d=true∧ym s' d'=true
def gh (s d s' d':List Int):Res (List Int×List Int):=tX (dU 2 s d s' d')
include h1 h2 h3 h4 in
theorem TL (s d s' d':List Int) (h:gQ s d s' d'):∃ N,kV L1 L2 L3 L4 N s d s' d'=some (gh s d s' d'):=by
 obtain ⟨ha,hb⟩:=h
 refine ⟨1005,?_⟩
 unfold kV gh
 rw [h1 _ _ ha]
 by_cases c:s.length=0
 ·obtain ⟨m,rfl,hm⟩:=pY ha c
  obtain ⟨n,t,ea,hc⟩:=TG hb
  obtain ⟨w,hw,hl,hd,n0,n1,ht,hn⟩:=iO hc
  obtain ⟨m1,m2⟩:=hm
  have e2:ax s' d'=(n :: t,d'):=Prod.ext ea (PA s' d')
  have d1:=(yA hb).2.2.2.1
  rw [bS c e2,show vp s [m]= .ok m from if_pos c,ww,fh,h2 _ _ (yA hb).2.1,ww]
  unfold uF
  obtain ⟨q,hq⟩:∃ q:Nat,(if m < w64 (0 - m) then w64 (0 - m) else m)=(q:Int)∧((m < 0∧(q:Int)=-m) ∨ (0 ≤ m∧(q:Int)=m)):=by
   rw [zY (n:=0 - m) (by omega)]
   refine ⟨m.natAbs,?_,?_⟩
   ·split <;> omega
   ·omega
  obtain ⟨hq,hqm⟩:=hq
  rw [hq]
  have hwf:L3 (q:Int) (n :: t)=some ((q:Int) :: t):=by
   rw [h3 _ _ ⟨by simp only [List.length_cons]; omega,by simp⟩]; rfl
  have hmade:L4 ((q:Int) :: t)=some (yT ((q:Int) :: t)):=h4 _ (by unfold xz zG; simp only [List.length_cons]; omega)
  have goal2:(if (2:Int)=2 then (if m < 0 then vz (n :: t) d' (n+m) (-m).toNat else vz (n :: t) d' 0 m.toNat) else if n ≤ m then vz (n :: t) d' 0 0 else if n ≤ -m then vz (n :: t) d' 0 0 else if m < 0 then vz (n :: t) d' 0 (n+m).toNat else vz (n :: t) d' m (n - m).toNat)
    =vz (n :: t) d' (if m < 0 then n - q else 0) q:=by
   rw [if_pos rfl]
   rcases hqm with ⟨b1,b2⟩ | ⟨b1,b2⟩
   ·rw [if_pos b1,if_pos b1,show (-m).toNat=q by omega,show n+m=n - q by omega]
   ·rw [if_neg (by omega),if_neg (by omega),show m.toNat=q by omega]
  rw [goal2]
  by_cases hf:xi ((q:Int) :: t)=true
  ·have hqt:=wv hf
   have hqw:(q:Int) * w ≤ 1000:=by rw [← hw]; exact hqt.2.2.2.1
   have hp:(zN ((q:Int) :: t)).toNat=q * w:=by rw [zN,hw]; exact_mod_cast rfl
   have hqwn:q * w ≤ 1000:=by
    have e:((q * w:Nat):Int)=(q:Int) * w:=by simp
    omega
   have hxs:∀ a:Int,vz (n :: t) d' a q= .ok ((q:Int) :: t,nz d' w n a q):=fun a=>by
    rw [gz,if_pos hf,hw]; rfl
   have hw1:0 < q→w ≤ 1000:=fun h0=>by
    have:=Nat.mul_le_mul_right w (show 1 ≤ q by omega)
    omega
   have hm':yT ((q:Int) :: t)= .ok ((q:Int) :: t,some (q * w),[]):=by rw [hG hf,hp]
   have run1:∀ a x9:Int,-4000000000 ≤ a→a ≤ 4000000000→(0 < q→x9=w)→xg L1 L2 L3 L4 1005 n q x9 a a (n :: t) d' ((q:Int) :: t) []=some (.ok ((q:Int) :: t,nz d' w n a q)):=fun a x9 q1 q2 q3=>by
    by_cases h0:q=0
    ·subst h0
     exact Jx L1 L2 L3 L4 1004 n x9 a (n :: t) d' _ [] q1 q2
    ·have z:=bT L1 L2 L3 L4 n (n :: t) d' ((q:Int) :: t) w hl (hw1 (by omega)) d1 a x9 q (by omega) (by omega) q a (1004 - q) [] rfl (Int.le_refl _) q3 (by simp; omega)
     rw [show q+1+(1004 - q)=1005 by omega,List.nil_append] at z
     exact z
   have run0:∀ a x9:Int,-4000000000 ≤ a→a ≤ 4000000000→(0 < q→x9=w)→xN L1 L2 L3 L4 1005 n q x9 a a (n :: t) d' ((q:Int) :: t) []=some (.ok ((q:Int) :: t,nz d' w n a q)):=fun a x9 q1 q2 q3=>by
    by_cases h0:q=0
    ·subst h0
     exact JC L1 L2 L3 L4 1004 n x9 a (n :: t) d' _ [] q1 q2
    ·have z:=SI L1 L2 L3 L4 n (n :: t) d' ((q:Int) :: t) w hl (hw1 (by omega)) d1 a x9 q (by omega) (by omega) q a (1004 - q) [] rfl (Int.le_refl _) q3 (by simp; omega)
     rw [show q+1+(1004 - q)=1005 by omega,List.nil_append] at z
     exact z
   have hdiv:0 < q→w64 (Int.tdiv ((q * w:Nat):Int) (q:Int))=w:=fun h0=>by
    rw [show ((q * w:Nat):Int)=(q:Int) * w by simp,Int.mul_tdiv_cancel_left _ (by omega)]
    have:=hw1 h0
    exact zY (by omega)
   have i0:idx (n :: t) 0=some n:=rfl
   have i2:(n :: t)[0]? =some n:=rfl
   have i3:(0:Int) < (n :: t).length:=by simp only [List.length_cons]; omega
   have w1:w64 (n - (q:Int))=n - q:=zY (by omega)
   rw [hxs]
   rcases aV s' d' with e | e <;> rw [e,e2] <;> simp only [Alt.on]
   ·rw [if_pos i3,i2]
    simp only [Option.bind_some]
    rw [hwf]
    simp only [Option.bind_some]
    rw [hmade,hm']
    simp only [Option.bind_some,fh]
    by_cases h0:(0:Int) < q
    ·rw [if_pos h0,if_neg (show ¬ (q:Int)=0 by omega),hdiv (by omega),w1]
     by_cases hm0:m < 0
     ·rw [if_pos hm0,if_pos hm0]; exact run0 _ _ (by omega) (by omega) (fun _=>rfl)
     ·rw [if_neg hm0,if_neg hm0]; exact run0 _ _ (by omega) (by omega) (fun _=>rfl)
    ·rw [if_neg h0,w1]
     by_cases hm0:m < 0
     ·rw [if_pos hm0,if_pos hm0]; exact run0 _ _ (by omega) (by omega) (by omega)
     ·rw [if_neg hm0,if_neg hm0]; exact run0 _ _ (by omega) (by omega) (by omega)
   ·rw [i0]
    simp only [Option.bind_some]
    rw [hwf]
    simp only [Option.bind_some]
    rw [hmade,hm']
    simp only [Option.bind_some,fh]
    by_cases h0:(0:Int) < q
    ·rw [if_pos h0,if_neg (show ¬ (q:Int)=0 by omega),hdiv (by omega),w1]
     by_cases hm0:m < 0
     ·rw [if_pos hm0,if_pos hm0]; exact run1 _ _ (by omega) (by omega) (fun _=>rfl)
     ·rw [if_neg hm0,if_neg hm0]; exact run1 _ _ (by omega) (by omega) (fun _=>rfl)
    ·rw [if_neg h0,w1]
     by_cases hm0:m < 0
     ·rw [if_pos hm0,if_pos hm0]; exact run1 _ _ (by omega) (by omega) (by omega)
     ·rw [if_neg hm0,if_neg hm0]; exact run1 _ _ (by omega) (by omega) (by omega)
  ·have i0:idx (n :: t) 0=some n:=rfl
   have i2:(n :: t)[0]? =some n:=rfl
   have i3:(0:Int) < (n :: t).length:=by simp only [List.length_cons]; omega
   rw [gz,if_neg hf]
   rcases aV s' d' with e | e <;> rw [e,e2] <;> simp only [Alt.on]
   ·rw [if_pos i3,i2]
    simp only [Option.bind_some]
    rw [hwf]
    simp only [Option.bind_some]
    rw [hmade,dB hf]; rfl
   ·rw [i0]
    simp only [Option.bind_some]
    rw [hwf]
    simp only [Option.bind_some]
    rw [hmade,dB hf]; rfl
 ·rw [show vp s d= .pan (vB 2) from if_neg c,show dU 2 s d s' d'= .error 2 from if_neg c]; rfl
end
def lP (s d:List Int):Prop:=ym s d=true∧∃ n t,s=n :: t
def v9 (s d:List Int):Int×Int:=if s.headD 0=0 then (0,0) else (s.headD 0,zN s.tail)
theorem fp (n:Int) (t d:List Int):v9 (n :: t) d=if n=0 then (0,0) else (n,zN t):=rfl
theorem Td (s d:List Int) (h:lP s d):∃ N,nN N s d=some (v9 s d):=by
 obtain ⟨h,n,t,rfl⟩:=h
 obtain ⟨w,hw,hl,hd,n0,n1,ht,hn⟩:=iO h
 refine ⟨0,?_⟩
 unfold nN
 rw [show idx (n :: t) 0=some n from rfl,fp]
 simp only [Option.bind_some]
 by_cases c:n=0
 ·rw [if_pos c,if_pos c]
 ·have hw0:0 ≤ (w:Int):=by omega
  have hwb:(w:Int) ≤ n * w:=by
   have:=Int.mul_le_mul_of_nonneg_right (show (1:Int) ≤ n by omega) hw0
   omega
  rw [if_neg c,if_neg c,if_neg c,hl,Int.mul_tdiv_cancel_left _ c,zY (by omega),hw]
theorem X4 {n:Int} {t d:List Int}:(v9 (n :: t) d).1=n:=by
 rw [fp]
 split
 ·rename_i c; exact c.symm
 ·rfl
theorem Wf {n:Int} {t d:List Int} (h:0 < n):(v9 (n :: t) d).2=zN t:=by
 rw [fp,if_neg (by omega)]
theorem JF {d:List Int} {w k c:Nat} (h:(k+c) * w ≤ d.length):cut d ((k:Int) * w) (((k+c:Nat):Int) * w)=some ((d.drop (k * w)).take (c * w)):=by
 unfold cut
 have e:(k:Int) * w=((k * w:Nat):Int):=by simp
 have e2:((k+c:Nat):Int) * w=(((k+c) * w:Nat):Int):=by simp
 rw [Nat.add_mul] at h
 rw [e,e2,Nat.add_mul,if_pos (by omega),Int.toNat_natCast]
 congr 2
 omega
theorem bL {d:List Int} {w:Nat} {n:Int}:∀ (c k:Nat),(k:Int)+c ≤ n→nz d w n k c=(d.drop (k * w)).take (c * w)
 | 0,k,h=>by simp [nz]
 | c+1,k,h=>by
   simp only [nz,aW]
   rw [if_pos ⟨by omega,by omega⟩,show ((k:Int)+1)=((k+1:Nat):Int) by omega,bL c (k+1) (by omega),Int.toNat_natCast]
   unfold yS
   rw [show (c+1) * w=w+c * w by rw [Nat.add_mul,Nat.one_mul]; omega,List.take_add,List.drop_drop,show k * w+w=(k+1) * w by rw [Nat.add_mul,Nat.one_mul]]
section
variable (L1:List Int→List Int→Option (Res Int)) (h1:∀ s d,od s d→L1 s d=some (vp s d))
 (L2:List Int→List Int→Option (Alt (List Int×List Int) (List Int×List Int))) (h2:∀ s d,pp s d→L2 s d=some (uF s d))
 (L3:List Int→List Int→Option (Int×Int)) (h3:∀ s d,lP s d→L3 s d=some (v9 s d))
 (L4:Int→List Int→Option (List Int)) (h4:∀ n l,sx n l→L4 n l=some (uK n l))
 (L5:List Int→Option (Res (List Int×Option Nat×List Int))) (h5:∀ l,xz l→L5 l=some (yT l))
include h4 h5 in
theorem La (n:Int) (t d:List Int) (h:ym (n :: t) d=true) (z:Int) (hz:0 < n→z=zN t) (hz0:n=0→z=0) (k c:Nat) (F T:Int) (hF:F=k) (hT:T=((k+c:Nat):Int)) (hk:(k:Int)+c ≤ n):
  ((L4 (w64 (T - F)) (n :: t)).bind fun y5=>(L5 y5).bind fun y6=>y6.on (fun y7=>(cut d (w64 (F * z)) (w64 (T * z))).bind fun y8=>if yu 8 (y7.2.2++y8).length then some (.ok (y7.1,y7.2.2++y8)) else none) (fun y7=>some (.pan y7)))
    =some (tX (vz (n :: t) d k c)):=by
 obtain ⟨w,hw,hl,hd,n0,n1,ht,hn⟩:=iO h
 subst hF hT
 have e1:w64 (((k+c:Nat):Int) - (k:Int))=c:=by rw [zY (by omega)]; omega
 have hf:xi ((c:Int) :: t)=true:=eS (z5 h).2.1 (by omega)
 have e2:L4 (c:Int) (n :: t)=some ((c:Int) :: t):=by rw [h4 _ _ ⟨by simp only [List.length_cons]; omega,by simp⟩]; rfl
 rw [e1,e2,ww,h5 _ (by unfold xz zG; simp only [List.length_cons]; omega),ww,hG hf,fh,gz,if_pos hf,hw,Int.toNat_natCast]
 have d1:=(yA h).2.2.2.1
 by_cases c0:n=0
 ·have hk0:k=0:=by omega
  have hc0:c=0:=by omega
  subst hk0 hc0
  rw [hz0 c0]
  have e3:w64 (((0:Nat):Int) * 0)=0:=by rw [Int.mul_zero]; exact zY (by omega)
  have e5:cut d 0 0=some []:=by
   unfold cut
   rw [if_pos (by omega)]; simp
  rw [e3,e5,ww,if_pos (yR (by unfold zG; simp))]
  rfl
 ·have hz':=hz (by omega)
  rw [hw] at hz'
  subst hz'
  have hw0:0 ≤ (w:Int):=by omega
  have q1:((k+c:Nat):Int) * w ≤ n * w:=Int.mul_le_mul_of_nonneg_right (by omega) hw0
  have q2:(k:Int) * w ≤ ((k+c:Nat):Int) * w:=Int.mul_le_mul_of_nonneg_right (by omega) hw0
  have q3:0 ≤ (k:Int) * w:=Int.mul_nonneg (by omega) hw0
  have q4:(k+c) * w ≤ d.length:=by
   have e:(((k+c) * w:Nat):Int)=((k+c:Nat):Int) * w:=by simp
   omega
  rw [zY (n:=(k:Int) * w) (by omega),zY (n:=((k+c:Nat):Int) * w) (by omega),JF q4,ww,if_pos (yR (by unfold zG; simp only [List.length_append,List.length_nil,List.length_take,List.length_drop]; omega)),bL c k (by omega)]
  rfl
def iK (s d s' d':List Int):Prop:=ym s d=true∧ym s' d'=true
def jg (s d s' d':List Int):Res (List Int×List Int):=tX (dU 3 s d s' d')
include h1 h2 h3 h4 h5 in
theorem VJ (s d s' d':List Int) (h:iK s d s' d'):∃ N,oJ L1 L2 L3 L4 L5 N s d s' d'=some (jg s d s' d'):=by
 obtain ⟨ha,hb⟩:=h
 refine ⟨0,?_⟩
 unfold oJ jg
 rw [h1 _ _ ha]
 by_cases c:s.length=0
 ·obtain ⟨m,rfl,hm⟩:=pY ha c
  obtain ⟨n,t,ea,hc⟩:=TG hb
  obtain ⟨w,hw,hl,hd,n0,n1,ht,hn⟩:=iO hc
  obtain ⟨m1,m2⟩:=hm
  have e2:ax s' d'=(n :: t,d'):=Prod.ext ea (PA s' d')
  rw [bS c e2,show vp s [m]= .ok m from if_pos c,ww,fh,h2 _ _ (yA hb).2.1,ww]
  unfold uF
  have hr:L3 (n :: t) d'=some (v9 (n :: t) d'):=h3 _ _ ⟨hc,n,t,rfl⟩
  have hz:0 < n→(v9 (n :: t) d').2=zN t:=Wf
  have hz0:n=0→(v9 (n :: t) d').2=0:=fun q=>by rw [fp,if_pos q]
  obtain ⟨k,cc,hF,hT,hk,hX⟩:∃ k cc:Nat,(if n < (if m < 0 then 0 else m) then n else (if m < 0 then 0 else m))=(k:Int)∧(if w64 (n+if 0 < m then 0 else m) < 0 then 0 else w64 (n+if 0 < m then 0 else m))=((k+cc:Nat):Int)∧(k:Int)+cc ≤ n∧
    (if (3:Int)=2 then (if m < 0 then vz (n :: t) d' (n+m) (-m).toNat else vz (n :: t) d' 0 m.toNat) else if n ≤ m then vz (n :: t) d' 0 0 else if n ≤ -m then vz (n :: t) d' 0 0 else if m < 0 then vz (n :: t) d' 0 (n+m).toNat else vz (n :: t) d' m (n - m).toNat)=vz (n :: t) d' k cc:=by
   have hw1:w64 (n+if 0 < m then 0 else m)=n+if 0 < m then 0 else m:=by split <;> exact zY (by omega)
   rw [hw1,if_neg (show ¬ (3:Int)=2 by omega)]
   by_cases A:n ≤ m
   ·refine ⟨n.toNat,0,?_,?_,by omega,?_⟩
    ·split <;> split <;> omega
    ·split <;> split <;> omega
    ·rw [if_pos A]; rfl
   ·rw [if_neg A]
    by_cases B:n ≤ -m
    ·refine ⟨0,0,?_,?_,by omega,?_⟩
     ·split <;> split <;> omega
     ·split <;> split <;> omega
     ·rw [if_pos B]; rfl
    ·rw [if_neg B]
     by_cases C:m < 0
     ·refine ⟨0,(n+m).toNat,?_,?_,by omega,?_⟩
      ·split <;> split <;> omega
      ·split <;> split <;> omega
      ·rw [if_pos C]; rfl
     ·refine ⟨m.toNat,(n - m).toNat,?_,?_,by omega,?_⟩
      ·split <;> split <;> omega
      ·split <;> split <;> omega
      ·rw [if_neg C,show ((m.toNat:Nat):Int)=m by omega]
  rw [hX]
  have body:=La L4 h4 L5 h5 n t d' hc _ hz hz0 k cc k ((k+cc:Nat):Int) rfl rfl hk
  have hlt:¬ (((k+cc:Nat):Int) < (k:Int)):=by omega
  rcases aV s' d' with e | e <;> rw [e,e2] <;> simp only [O6,OW] <;> rw [hr,ww,X4,hF,hT,if_neg hlt] <;> exact body
 ·rw [show vp s d= .pan (vB 2) from if_neg c,show dU 3 s d s' d'= .error 2 from if_neg c]; rfl
end
def wa (a b:List Int):Prop:=zG a
def xk (a b:List Int):Bool:=decide (a=b)
theorem Pd (a b:List Int) (ha:zG a) (hab:a.length=b.length):∀ (r t:List Int) (j e:Nat),a.drop j=r→b.drop j=t→xM (r.length+1+e) a b a.length j=some (decide (r=t))
 | [],t,j,e,hd,hd'=>by
   have h:=vN hd
   rw [show ([]:List Int).length+1+e=e+1 by simp; omega]
   simp only [xM]
   have:t=[]:=by rw [← hd']; exact List.drop_eq_nil_of_le (by omega)
   rw [if_neg h,this]; rfl
 | x :: r,t,j,e,hd,hd'=>by
   obtain ⟨h1,h2,h3,h4,h5,h6⟩:=xZ hd
   have hb:a.length ≤ big:=by unfold zG at ha; rw [wB]; omega
   cases t with
   | nil=>have:=vN hd'; omega
   | cons y t=>
     obtain ⟨g1,g2,g3,g4,g5,g6⟩:=xZ hd'
     rw [show (x :: r).length+1+e=(r.length+1+e)+1 by simp; omega]
     simp only [xM]
     rw [if_pos h2,h3,g3]
     simp only [Option.bind_some]
     rw [va h1 hb,Pd a b ha hab r t (j+1) e h5 g5]
     by_cases c:x=y
     ·rw [if_pos c]; simp [c]
     ·rw [if_neg c]; simp [c]
theorem eF (a b:List Int) (h:wa a b):∃ N,vt N a b=some (xk a b):=by
 refine ⟨a.length+1,?_⟩
 unfold vt xk
 by_cases c:(a.length:Int)=b.length
 ·rw [if_pos c]
  exact Pd a b h (by omega) a b 0 0 rfl rfl
 ·rw [if_neg c]
  have:¬ a=b:=by rintro rfl; exact c rfl
  simp [this]
def VP (s d s' d':List Int):Except Int (List Int×List Int):=
 if s.length=s'.length then (if s.tail=s'.tail then (if xi ((s.headD 0+s'.headD 0) :: s.tail)=true then .ok ((s.headD 0+s'.headD 0) :: s.tail,d++d') else .error 6) else .error 3) else .error 2
def ET (s d s' d':List Int):Except Int (List Int×List Int):=
 if s.length=s'.length+1 then VP s d (1 :: s') d' else if s'.length=s.length+1 then VP (1 :: s) d s' d' else VP s d s' d'
def KG (s d s' d':List Int):Except Int (List Int×List Int):=ET (ax s d).1 d (ax s' d').1 d'
section
variable (L1:List Int→List Int→Option (Alt (List Int×List Int) (List Int×List Int))) (h1:∀ s d,pp s d→L1 s d=some (uF s d))
 (L2:List Int→List Int→Option Bool) (h2:∀ a b,wa a b→L2 a b=some (xk a b))
 (L3:Int→List Int→Option (List Int)) (h3:∀ n l,sx n l→L3 n l=some (uK n l))
 (L4:List Int→Option (Res (List Int×Option Nat×List Int))) (h4:∀ l,xz l→L4 l=some (yT l))
include h2 h3 h4
theorem ZX (n n':Int) (t t' d d':List Int) (ht:t.length ≤ 3) (hn:0 ≤ n∧n ≤ 1000) (hn':0 ≤ n'∧n' ≤ 1000) (hd:d.length ≤ 1000) (hd':d'.length ≤ 1000) (l l':Int) (hl:l=((n :: t).length:Int)) (hl':l'=((n' :: t').length:Int)) (he:t.length=t'.length):
  ((cut (n :: t) 1 l).bind fun y4=>(cut (n' :: t') 1 l').bind fun y5=>(L2 y4 y5).bind fun y6=>if y6=false then some (.pan (D.ifaceS 75 [D.int .i64 3])) else ((idx (n :: t) 0).bind fun y7=>(idx (n' :: t') 0).bind fun y8=>
    (L3 (w64 (y7+y8)) (n :: t)).bind fun y9=>(L4 y9).bind fun y10=>y10.on (fun y11=>if yu 8 (y11.2.2++d).length then (if yu 8 (y11.2.2++d++d').length then some (.ok (y11.1,y11.2.2++d++d')) else none) else none) (fun y11=>some (.pan y11))))
    =some (tX (VP (n :: t) d (n' :: t') d')):=by
 subst hl hl'
 rw [pj,pj]
 simp only [Option.bind_some]
 rw [h2 _ _ (by unfold wa zG; omega),show idx (n :: t) 0=some n from rfl,show idx (n' :: t') 0=some n' from rfl]
 simp only [Option.bind_some,xk]
 have e:VP (n :: t) d (n' :: t') d'=if t=t' then (if xi ((n+n') :: t)=true then .ok ((n+n') :: t,d++d') else .error 6) else .error 3:=if_pos (by simp only [List.length_cons]; omega)
 rw [e]
 by_cases c:t=t'
 ·rw [if_neg (by simp [c]),if_pos c,zY (by omega),h3 _ _ ⟨by simp only [List.length_cons]; omega,by simp⟩]
  simp only [Option.bind_some]
  rw [show uK (n+n') (n :: t)=(n+n') :: t from rfl,h4 _ (by unfold xz zG; simp only [List.length_cons]; omega),ww]
  by_cases hf:xi ((n+n') :: t)=true
  ·rw [hG hf,fh,if_pos hf,List.nil_append,if_pos (yR (by unfold zG; omega)),if_pos (yR (by unfold zG; simp only [List.length_append]; omega))]; rfl
  ·rw [dB hf,if_neg hf]; rfl
 ·rw [if_pos (by simp [c]),if_neg c]; rfl
def kh (s d s' d':List Int):Prop:=ym s d=true∧ym s' d'=true
def nw (s d s' d':List Int):Res (List Int×List Int):=tX (KG s d s' d')
include h1 in
theorem YU (s d s' d':List Int) (h:kh s d s' d'):∃ N,rz L1 L2 L3 L4 N s d s' d'=some (nw s d s' d'):=by
 obtain ⟨ha,hb⟩:=h
 refine ⟨0,?_⟩
 unfold rz nw KG
 obtain ⟨n,t,e1,hc⟩:=TG ha
 obtain ⟨n',t',e1',hc'⟩:=TG hb
 have e2:ax s d=(n :: t,d):=Prod.ext e1 (PA s d)
 have e2':ax s' d'=(n' :: t',d'):=Prod.ext e1' (PA s' d')
 obtain ⟨w,hw,hl,hd,n0,n1,ht,hn⟩:=iO hc
 obtain ⟨w',hw',hl',hd',n0',n1',ht',hn'⟩:=iO hc'
 have d1:=(yA ha).2.2.2.1
 have d1':=(yA hb).2.2.2.1
 rw [h1 _ _ (yA ha).2.1,h1 _ _ (yA hb).2.1]
 simp only [Option.bind_some,uF]
 have w1:w64 (((n :: t).length:Int) - ((n' :: t').length:Int))=((n :: t).length:Int) - ((n' :: t').length:Int):=zY (by simp only [List.length_cons]; omega)
 have r1:yu 8 ((n' :: t').length+1):=by unfold yu sm; simp only [List.length_cons]; omega
 have r2:yu 8 ((n :: t).length+1):=by unfold yu sm; simp only [List.length_cons]; omega
 rcases aV s d with e | e <;> rcases aV s' d' with e' | e' <;> rw [e,e',e2,e2'] <;> simp only [O6,OW,w1,if_pos r1,if_pos r2] <;> unfold ET
 all_goals
  by_cases c3:(n :: t).length=(n' :: t').length
  ·rw [if_pos (show ((n :: t).length:Int) - ((n' :: t').length:Int)=0 by omega),if_neg (show ¬ (n :: t).length=(n' :: t').length+1 by omega),if_neg (show ¬ (n' :: t').length=(n :: t).length+1 by omega)]
   exact ZX L2 h2 L3 h3 L4 h4 n n' t t' d d' (by omega) ⟨n0,n1⟩ ⟨n0',n1'⟩ d1 d1' _ _ rfl rfl (by simp only [List.length_cons] at *; omega)
  ·rw [if_neg (show ¬ ((n :: t).length:Int) - ((n' :: t').length:Int)=0 by omega)]
   by_cases c1:(n :: t).length=(n' :: t').length+1
   ·rw [if_pos (show ((n :: t).length:Int) - ((n' :: t').length:Int)=1 by omega),if_pos c1]
    exact ZX L2 h2 L3 h3 L4 h4 n 1 t (n' :: t') d d' (by omega) ⟨n0,n1⟩ (by omega) d1 d1' _ _ rfl (by simp only [List.length_cons]) (by simp only [List.length_cons] at *; omega)
   ·rw [if_neg (show ¬ ((n :: t).length:Int) - ((n' :: t').length:Int)=1 by omega),if_neg c1]
    by_cases c2:(n' :: t').length=(n :: t).length+1
    ·rw [if_pos (show ((n :: t).length:Int) - ((n' :: t').length:Int)=-1 by omega),if_pos c2]
     exact ZX L2 h2 L3 h3 L4 h4 1 n' (n :: t) t' d d' (by simp only [List.length_cons]; omega) (by omega) ⟨n0',n1'⟩ d1 d1' _ _ (by simp only [List.length_cons]) rfl (by simp only [List.length_cons] at *; omega)
    ·rw [if_neg (show ¬ ((n :: t).length:Int) - ((n' :: t').length:Int)=-1 by omega),if_neg c2]
     rw [show VP (n :: t) d (n' :: t') d'= .error 2 from if_neg c3]; rfl
end
def sH (n:Int):Prop:=0 ≤ n∧n ≤ 1048576
def vI (n:Int):Res (List Int):= .ok []
theorem db (n:Int) (h:sH n):∃ N,vE N n=some (vI n):=by
 obtain ⟨h1,h2⟩:=h
 refine ⟨0,?_⟩
 unfold vE vI
 rw [if_neg (by omega),show w64 0=0 from zY (by omega),zY (by omega),if_pos (show zOk 8 (n - 0) by unfold zOk sm; omega)]
 split <;> rfl
def uc (l:List (List Int)):Prop:=∃ a b,l=[a,b]∧a.length ≤ 3∧b.length ≤ 3
def xw (l:List (List Int)):Res (List Int):= .ok l.flatten
theorem f7 (L:Int→Option (Res (List Int))) (hL:∀ n,sH n→L n=some (vI n)) (l:List (List Int)) (h:uc l):
  ∃ N,vc L N l=some (xw l):=by
 obtain ⟨a,b,rfl,ha,hb⟩:=h
 refine ⟨3,?_⟩
 unfold vc xw
 have w1:w64 (0+1)=1:=zY (by omega)
 have w2:w64 (1+1)=2:=zY (by omega)
 have l1:w64 (0+(a.length:Int))=a.length:=by rw [zY (by omega)]; omega
 have l2:w64 ((a.length:Int)+b.length)=a.length+b.length:=zY (by omega)
 have ln:(([a,b]:List (List Int)).length:Int)=2:=rfl
 have i0:idx [a,b] 0=some a:=rfl
 have i1:idx [a,b] 1=some b:=rfl
 rw [ln]
 simp only [wM]
 rw [if_pos (by omega),i0]
 simp only [Option.bind_some]
 rw [l1,w1,if_neg (by omega),if_pos (by omega),i1]
 simp only [Option.bind_some]
 rw [l2,w2,if_neg (by omega),if_neg (by omega),hL _ ⟨by omega,by omega⟩]
 simp only [Option.bind_some,vI,Res.on]
 rw [ln]
 simp only [wL]
 rw [if_pos (by omega),i0]
 simp only [Option.bind_some]
 rw [if_pos (yR (by unfold zG; simp; omega)),w1,if_pos (by omega),i1]
 simp only [Option.bind_some]
 rw [if_pos (yR (by unfold zG; simp; omega)),w2,if_neg (by omega)]
 simp
def mB (n:Int) (d:List Int) (w:Nat):List Int→Except Int (List Int)
 | []=> .ok []
 | i :: r=>if i < 0 then .error 4 else if n ≤ i then .error 4 else match mB n d w r with
   | .ok l=> .ok (yS d w i.toNat++l)
   | .error c=> .error c
def bhd (s acc:List Int):Except Int (List Int)→Except Int (List Int×List Int)
 | .ok l=> .ok (s,acc++l)
 | .error c=> .error c
theorem GC (s acc:List Int) (n:Int) (d:List Int) (w:Nat):bhd s acc (mB n d w [])= .ok (s,acc):=by simp [bhd,mB]
theorem KD (s acc:List Int) (n:Int) (d:List Int) (w:Nat) (i:Int) (r:List Int) (h0:¬ i < 0) (h1:¬ n ≤ i):bhd s acc (mB n d w (i :: r))=bhd s (acc++yS d w i.toNat) (mB n d w r):=by
 simp only [mB,if_neg h0,if_neg h1]
 cases mB n d w r <;> simp [bhd]
theorem Q4 (s acc:List Int) (n:Int) (d:List Int) (w:Nat) (i:Int) (r:List Int) (h:i < 0 ∨ n ≤ i):bhd s acc (mB n d w (i :: r))= .error 4:=by
 simp only [mB]
 by_cases c:i < 0
 ·rw [if_pos c]; rfl
 ·rw [if_neg c,if_pos (by omega)]; rfl
def PK (s d s' d':List Int):Except Int (List Int×List Int):=match s' with
 | []=> .error 2
 | n :: t=>if xi (s++t)=true then bhd (s++t) [] (mB n d' (zN t).toNat d) else .error 6
section
variable (L1:List (List Int)→Option (Res (List Int))) (h1:∀ l,uc l→L1 l=some (xw l))
 (L2:List Int→Option (Res (List Int×Option Nat×List Int))) (h2:∀ l,xz l→L2 l=some (yT l))
 (L3:List Int→List Int→Option (Int×Int)) (h3:∀ s d,lP s d→L3 s d=some (v9 s d))
theorem S6 (d:List Int) (n:Int) (s' d' S:List Int) (w:Nat) (z:Int) (hl:(d'.length:Int)=n * w) (hn:n * w ≤ 1000) (hn1:n ≤ 1000) (hd:d.length ≤ 1000) (hd':d'.length ≤ 1000) (hz:0 < n→z=w):∀ (r:List Int) (j e:Nat) (acc:List Int),d.drop j=r→acc.length ≤ j * 1000→
  tV L1 L2 L3 (r.length+1+e) n z d d.length j s' d' S acc=some (tX (bhd S acc (mB n d' w r)))
 | [],j,e,acc,hr,ha=>by
   rw [show ([]:List Int).length+1+e=e+1 by simp; omega]
   simp only [tV]
   rw [if_neg (vN hr),GC]; rfl
 | x :: r,j,e,acc,hr,ha=>by
   obtain ⟨q1,q2,q3,q4,q5,q6⟩:=xZ hr
   rw [show (x :: r).length+1+e=(r.length+1+e)+1 by simp; omega]
   simp only [tV]
   rw [if_pos q2,q3]
   simp only [Option.bind_some]
   by_cases c:x < 0
   ·rw [if_pos c,Q4 _ _ _ _ _ _ _ (.inl c)]; rfl
   ·rw [if_neg c]
    by_cases c':n ≤ x
    ·rw [if_pos c',Q4 _ _ _ _ _ _ _ (.inr c')]; rfl
    ·have hrow:=XN hl (show 0 ≤ x by omega) (show x < n by omega)
     have hz':=hz (by omega)
     subst hz'
     have hw1:w ≤ 1000:=by
      have:=Int.mul_le_mul_of_nonneg_right (show (1:Int) ≤ n by omega) (show 0 ≤ (w:Int) by omega)
      omega
     obtain ⟨i,rfl⟩:=Int.eq_ofNat_of_zero_le (show 0 ≤ x by omega)
     simp only [Int.ofNat_eq_natCast,Int.toNat_natCast] at *
     have hrow':=hrow
     rw [Nat.add_mul,Nat.one_mul] at hrow'
     have ee:(i:Int) * w=((i * w:Nat):Int):=by simp
     have ee2:((i:Int)+1) * w=(i:Int) * w+w:=by rw [Int.add_mul,Int.one_mul]
     rw [if_neg c',zY (n:=(i:Int)+1) (by omega),ee2,zY (n:=(i:Int) * w) (by omega),zY (n:=(i:Int) * w+w) (by omega),Yb (by unfold zG; omega) hrow]
     simp only [Option.bind_some]
     have hlen:=uf hrow
     rw [KD _ _ _ _ _ _ _ c c',Int.toNat_natCast,if_pos (yR (by unfold zG; simp only [List.length_append,hlen]; omega)),va q1 (by rw [wB]; omega),
      S6 d n s' d' S w w hl hn hn1 hd hd' (fun _=>rfl) r (j+1) e _ q5 (by simp only [List.length_append,hlen]; omega)]
def gg (s d s' d':List Int):Prop:=ym s d=true∧ym s' d'=true
def iy (s d s' d':List Int):Res (List Int×List Int):=tX (PK s d s' d')
include h1 h2 h3 in
theorem UY (s d s' d':List Int) (h:gg s d s' d'):∃ N,mf L1 L2 L3 N s d s' d'=some (iy s d s' d'):=by
 obtain ⟨ha,hb⟩:=h
 refine ⟨d.length+1,?_⟩
 unfold mf iy
 cases s' with
 | nil=>rw [if_pos (show (([]:List Int).length:Int)=0 from rfl)]; rfl
 | cons n t=>
   obtain ⟨w,hw,hl,hd,n0,n1,ht,hn⟩:=iO hb
   obtain ⟨a1,a2,a3,a4,a5⟩:=yA ha
   rw [if_neg (by simp only [List.length_cons]; omega),pj,ww,h1 _ ⟨s,t,rfl,a3,by omega⟩,ww,
    show xw [s,t]= .ok (s++t) by simp [xw],fh,h2 _ (by unfold xz zG; simp only [List.length_append]; omega),ww]
   have ex:PK s d (n :: t) d'=if xi (s++t)=true then bhd (s++t) [] (mB n d' (zN t).toNat d) else .error 6:=rfl
   rw [ex]
   by_cases hf:xi (s++t)=true
   ·rw [hG hf,fh,h3 _ _ ⟨hb,n,t,rfl⟩,ww,X4,if_pos hf,hw,Int.toNat_natCast]
    exact S6 L1 L2 L3 d n (n :: t) d' (s++t) w _ hl hn n1 a4 (yA hb).2.2.2.1 (fun q=>(Wf q).trans hw) d 0 0 [] rfl (by simp)
   ·rw [dB hf,if_neg hf]; rfl
end
def fnd:List Int→Int→Nat
 | [],_=>0
 | x :: l,v=>if x=v then 0 else fnd l v+1
def PS (s d s' d':List Int):Except Int (List Int×List Int):=if s.length=1 then .ok (s',d'.map fun v=>(fnd d v:Int)) else .error 2
theorem Ij {o:List (Int×Int)} {k w v:Int}:o8 (ff o k w) v=if k=v then some w else o8 o v:=by
 induction o with
 | nil=>simp only [ff,o8]
 | cons p o ih=>
   simp only [ff]
   by_cases c:p.1=k
   ·rw [if_pos c]
    simp only [o8]
    by_cases c':k=v
    ·rw [if_pos c',if_pos c']
    ·rw [if_neg c',if_neg c',if_neg (by rw [c]; exact c')]
   ·rw [if_neg c]
    simp only [o8]
    by_cases c1:p.1=v
    ·rw [if_pos c1,if_pos c1,if_neg (by intro q; exact c (c1.trans q.symm))]
    ·rw [if_neg c1,if_neg c1,ih]
def lk:List Int→Nat→Int→Option Int
 | [],_,_=>none
 | x :: r,j,v=>if x=v then some (j:Int) else lk r (j+1) v
theorem MK:∀ (r:List Int) (j:Nat) (v:Int),((lk r j v).isSome=false→fnd r v=r.length)∧((lk r j v).isSome=true→(lk r j v).getD 0=(j:Int)+fnd r v)
 | [],j,v=>⟨fun _=>rfl,fun h=>by cases h⟩
 | x :: r,j,v=>by
   have ih:=MK r (j+1) v
   simp only [lk,fnd,List.length_cons]
   by_cases c:x=v
   ·rw [if_pos c,if_pos c]; simp
   ·rw [if_neg c,if_neg c]
    exact ⟨fun h=>by rw [ih.1 h],fun h=>by rw [ih.2 h]; omega⟩
section
variable (L:List Int→Option (Res (List Int×Option Nat×List Int))) (hL:∀ l,xz l→L l=some (yT l))
theorem SM (s d d' S:List Int) (o:List (Int×Int)) (hd':zG d') (ho:∀ v,o8 o v=lk d 0 v):∀ (r:List Int) (j e:Nat) (acc:List Int),d'.drop j=r→acc.length=j→
  uI L (r.length+1+e) d' d'.length j s d o S acc=some (.ok (S,acc++r.map fun v=>(fnd d v:Int)))
 | [],j,e,acc,hr,ha=>by
   rw [show ([]:List Int).length+1+e=e+1 by simp; omega]
   simp only [uI]
   rw [if_neg (vN hr)]; simp
 | x :: r,j,e,acc,hr,ha=>by
   obtain ⟨q1,q2,q3,q4,q5,q6⟩:=xZ hr
   have hdl:d'.length ≤ 1048576:=hd'
   rw [show (x :: r).length+1+e=(r.length+1+e)+1 by simp; omega]
   simp only [uI]
   rw [if_pos q2,q3]
   simp only [Option.bind_some]
   rw [ho x,va q1 (by rw [wB]; omega)]
   have fin:∀ z:Int,z=fnd d x→(if yu 8 (acc++[z]).length then uI L (r.length+1+e) d' d'.length ((j+1:Nat):Int) s d o S (acc++[z]) else none)=some (.ok (S,acc++List.map (fun v=>(fnd d v:Int)) (x :: r))):=by
    intro z hz
    rw [if_pos (yR (by unfold zG; simp only [List.length_append,List.length_cons,List.length_nil]; omega)),SM s d d' S o hd' ho r (j+1) e _ q5 (by simp [ha]),hz]
    simp
   obtain ⟨k1,k2⟩:=MK d 0 x
   cases hs:(lk d 0 x).isSome with
   | false=>rw [if_pos rfl]; exact fin _ (by rw [k1 hs])
   | true=>rw [if_neg (by simp)]; exact fin _ (by rw [k2 hs]; simp)
include hL in
theorem Ri (s d s' d':List Int) (hd:zG d) (hb:ym s' d'=true) (N:Nat) (hN:d'.length+1 ≤ N):∀ (j e:Nat) (o:List (Int×Int)),j ≤ d.length→(∀ v,o8 o v=lk (d.drop j) j v)→
  sQ L N (j+1+e) ((j:Int) - 1) s d s' d' o=some (.ok (s',d'.map fun v=>(fnd d v:Int)))
 | 0,e,o,hj,ho=>by
   rw [show 0+1+e=e+1 by omega]
   simp only [sQ]
   rw [if_neg (by omega),hL _ (yA hb).1,ww,hG (z5 hb).2.1,fh]
   obtain ⟨e',rfl⟩:∃ e',N=d'.length+1+e':=⟨N - (d'.length+1),by omega⟩
   have q:=SM L s d d' s' o (yA hb).2.1 (fun v=>by rw [ho v]; rfl) d' 0 e' [] rfl rfl
   simpa using q
 | j+1,e,o,hj,ho=>by
   have hdl:d.length ≤ 1048576:=hd
   rw [show j+1+1+e=(j+1+e)+1 by omega]
   simp only [sQ]
   obtain ⟨x,hx⟩:∃ x,d[j]? =some x:=⟨_,List.getElem?_eq_getElem (show j < d.length by omega)⟩
   have hdr:d.drop j=x :: d.drop (j+1):=by
    obtain ⟨h1,h2⟩:=List.getElem?_eq_some_iff.1 hx
    rw [List.drop_eq_getElem_cons h1,h2]
   have e1:(((j+1:Nat):Int) - 1)=(j:Int):=by omega
   rw [e1,if_pos (by omega),iU,hx]
   simp only [Option.bind_some]
   rw [zY (n:=(j:Int) - 1) (by omega)]
   refine Ri s d s' d' hd hb N hN j e _ (by omega) fun v=>?_
   rw [Ij,ho v,hdr]
   rfl
def gO (s d s' d':List Int):Prop:=ym s d=true∧ym s' d'=true
def hO (s d s' d':List Int):Res (List Int×List Int):=tX (PS s d s' d')
include hL in
theorem Ss (s d s' d':List Int) (h:gO s d s' d'):∃ N,kd L N s d s' d'=some (hO s d s' d'):=by
 obtain ⟨ha,hb⟩:=h
 have hdl:=(yA ha).2.2.2.1
 refine ⟨d.length+1+(d'.length+1),?_⟩
 unfold kd hO PS
 by_cases c:s.length=1
 ·rw [if_pos (by omega),if_pos c,zY (by omega)]
  exact Ri L hL s d s' d' (yA ha).2.1 hb _ (by omega) d.length (d'.length+1) [] (Nat.le_refl _) (fun v=>by rw [List.drop_length]; rfl)
 ·rw [if_neg (by omega),if_neg c]; rfl
end
def jz (x:Int):Prop:=True
def pr (x:Int):List Int×List Int:=([],[x])
theorem X3 (x:Int) (h:jz x):∃ N,lD N x=some (pr x):=⟨0,rfl⟩
def gf (s d s' d':List Int):Prop:=zG s∧zG d
def Wx (s d s' d':List Int):List Int×List Int:=([],[wx (decide (s=s')&&decide (d=d'))])
def j9 (s d s' d':List Int):List Int×List Int:=Wx s d s' d'
theorem Tt (L1:List Int→List Int→Option Bool) (h1:∀ a b,wa a b→L1 a b=some (xk a b)) (L2:Bool→Option Int) (h2:∀ b,rj b→L2 b=some (th b))
  (L3:Int→Option (List Int×List Int)) (h3:∀ x,jz x→L3 x=some (pr x)) (s d s' d':List Int) (h:gf s d s' d'):∃ N,m7 L1 L2 L3 N s d s' d'=some (j9 s d s' d'):=by
 refine ⟨0,?_⟩
 unfold m7 j9
 rw [h1 _ _ h.1,h1 _ _ h.2]
 simp only [Option.bind_some,xk]
 by_cases c:s=s'
 ·rw [if_pos (by simp [c]),h2 _ trivial]
  simp only [Option.bind_some]
  rw [h3 _ trivial]
  simp [pr,th,Wx,c]
 ·rw [if_neg (by simp [c]),h2 _ trivial]
  simp only [Option.bind_some]
  rw [h3 _ trivial]
  simp [pr,th,Wx,c]
def U2 (f:Int) (s d s' d':List Int):Prop:=zG s∧zG d∧zG s'∧zG d'
def f9 (f:Int) (s d s' d':List Int):Prop:=U2 f s d s' d'
def OF (f:Int) (s d s' d':List Int):Except Int (List Int×List Int):=
 if f=1 then YZ s d s' d' else if f=2 then dU f s d s' d' else if f=3 then dU f s d s' d' else if f=4 then KG s d s' d' else if f=5 then PK s d s' d' else if f=7 then .ok (Wx s d s' d') else PS s d s' d'
def lw (f:Int) (s d s' d':List Int):List Int×List Int×Int:=
 if (1 ≤ f∧f ≤ 7)∧ym s d=true∧ym s' d'=true then tri (OF f s d s' d') else ([],[],9)
def lx (f:Int) (s d s' d':List Int):List Int×List Int×Int:=lw f s d s' d'
theorem eP (L:D→Int→List Int→List Int→Option Int) (h:∀ x a s d,xV x a s d→L (vB x) a s d=some (wy x a s d)) (X:Except Int (List Int×List Int)) (a:Int):
  ((some (tX X)).bind fun y0=>y0.on (fun y1=>some (y1.1,y1.2,(0:Int))) (fun y1=>(L y1 a [] []).bind fun y2=>some ([],[],y2)))=some (tri X):=by
 cases X with
 | ok p=>rfl
 | error c=>
   simp only [Option.bind_some,tX,Ms]
   rw [h _ _ _ _ trivial]; rfl
theorem Qk (L1:List Int→List Int→List Int→List Int→Option (Res (List Int×List Int))) (h1:∀ s d s' d',jF s d s' d'→L1 s d s' d'=some (lM s d s' d'))
  (L2:List Int→List Int→List Int→List Int→Option (Res (List Int×List Int))) (h2:∀ s d s' d',gQ s d s' d'→L2 s d s' d'=some (gh s d s' d'))
  (L3:List Int→List Int→List Int→List Int→Option (Res (List Int×List Int))) (h3:∀ s d s' d',iK s d s' d'→L3 s d s' d'=some (jg s d s' d'))
  (L4:List Int→List Int→List Int→List Int→Option (Res (List Int×List Int))) (h4:∀ s d s' d',kh s d s' d'→L4 s d s' d'=some (nw s d s' d'))
  (L5:List Int→List Int→List Int→List Int→Option (Res (List Int×List Int))) (h5:∀ s d s' d',gg s d s' d'→L5 s d s' d'=some (iy s d s' d'))
  (L6:List Int→List Int→List Int→List Int→Option (Res (List Int×List Int))) (h6:∀ s d s' d',gO s d s' d'→L6 s d s' d'=some (hO s d s' d'))
  (L7:List Int→List Int→List Int→List Int→Option (List Int×List Int)) (h7:∀ s d s' d',gf s d s' d'→L7 s d s' d'=some (j9 s d s' d'))
  (L8:List Int→List Int→Option Bool) (h8:∀ s d,vO s d→L8 s d=some (xx s d))
  (L9:D→Int→List Int→List Int→Option Int) (h9:∀ x a s d,xV x a s d→L9 (vB x) a s d=some (wy x a s d))
  (f:Int) (s d s' d':List Int) (h:f9 f s d s' d'):∃ N,jP L1 L2 L3 L4 L5 L6 L7 L8 L9 N f s d s' d'=some (lx f s d s' d'):=by
 obtain ⟨ss,sd,ss',sd'⟩:=h
 refine ⟨0,?_⟩
 unfold jP lx lw
 by_cases c1:f < 1
 ·rw [if_pos c1,if_neg (fun q=>by have:=q.1.1; omega)]
 rw [if_neg c1]
 by_cases c2:7 < f
 ·rw [if_pos c2,if_neg (fun q=>by have:=q.1.2; omega)]
 rw [if_neg c2,h8 _ _ ⟨ss,sd⟩,h8 _ _ ⟨ss',sd'⟩]
 simp only [Option.bind_some,xx]
 cases ha:ym s d with
 | false=>rw [if_pos rfl,if_neg (fun q=>by cases q.2.1)]
 | true=>
 rw [if_neg (by simp)]
 cases hb:ym s' d' with
 | false=>rw [if_pos rfl,if_neg (fun q=>by cases q.2.2)]
 | true=>
 rw [if_neg (by simp),if_pos (show (1 ≤ f∧f ≤ 7)∧true=true∧true=true from ⟨⟨by omega,by omega⟩,rfl,rfl⟩)]
 unfold ik
 rw [if_pos (by omega),if_neg (by omega)]
 have hf:f=1 ∨ f=2 ∨ f=3 ∨ f=4 ∨ f=5 ∨ f=6 ∨ f=7:=by omega
 rcases hf with rfl | rfl | rfl | rfl | rfl | rfl | rfl
 ·rw [if_pos (by decide),h1 _ _ _ _ trivial]; exact eP L9 h9 _ _
 ·rw [if_neg (by decide),if_pos (by decide),h2 _ _ _ _ ⟨ha,hb⟩]; exact eP L9 h9 _ _
 ·rw [if_neg (by decide),if_neg (by decide),if_pos (by decide),h3 _ _ _ _ ⟨ha,hb⟩]; exact eP L9 h9 _ _
 ·rw [if_neg (by decide),if_neg (by decide),if_neg (by decide),if_pos (by decide),h4 _ _ _ _ ⟨ha,hb⟩]; exact eP L9 h9 _ _
 ·rw [if_neg (by decide),if_neg (by decide),if_neg (by decide),if_neg (by decide),if_pos (by decide),h5 _ _ _ _ ⟨ha,hb⟩]; exact eP L9 h9 _ _
 ·rw [if_neg (by decide),if_neg (by decide),if_neg (by decide),if_neg (by decide),if_neg (by decide),if_pos (by decide),h6 _ _ _ _ ⟨ha,hb⟩]; exact eP L9 h9 _ _
 ·rw [if_neg (by decide),if_neg (by decide),if_neg (by decide),if_neg (by decide),if_neg (by decide),if_neg (by decide),if_pos (by decide),h7 _ _ _ _ ⟨ss,sd⟩]; rfl
def kM (s d s' d':List Int):Prop:=zG s∧zG d
def wW (s d s' d':List Int):Bool:=decide (s=s')&&decide (d=d')
theorem XM (L:List Int→List Int→Option Bool) (hL:∀ a b,lT a b→L a b=some (uG a b)) (s d s' d':List Int) (h:kM s d s' d'):
  ∃ N,qa L N s d s' d'=some (wW s d s' d'):=by
 refine ⟨0,?_⟩
 unfold qa wW
 rw [hL _ _ h.1,hL _ _ h.2]
 simp only [Option.bind_some,uG]
 by_cases c:s=s'
 ·rw [if_pos (by simp [c])]; simp [c]
 ·rw [if_neg (by simp [c])]; simp [c]
def iB (s d:List Int):Prop:=zG s∧zG d
def jh (s d:List Int):List Int×List Int:=([(d.length:Int)],d)
theorem V8 (L:List Int→Option (List Int×List Int)) (hL:∀ l,oa l→L l=some (pK l)) (s d:List Int) (h:iB s d):
  ∃ N,ot L N s d=some (jh s d):=by
 refine ⟨0,?_⟩
 unfold ot jh
 rw [hL _ h.2]; rfl
def gN (s d:List Int):Prop:=zG s∧zG d
def oA (s d:List Int):List Int×List Int×Int:=if ym s d=true then ([(d.length:Int)],d,0) else ([],[],9)
theorem T3 (L1:List Int→List Int→Option (List Int×List Int)) (h1:∀ s d,iB s d→L1 s d=some (jh s d))
  (L2:List Int→List Int→Option Bool) (h2:∀ s d,vO s d→L2 s d=some (xx s d))
  (L3:D→Int→List Int→List Int→Option Int) (h3:∀ x a s d,xV x a s d→L3 (vB x) a s d=some (wy x a s d))
  (s d:List Int) (h:gN s d):∃ N,kG L1 L2 L3 N s d=some (oA s d):=by
 refine ⟨0,?_⟩
 unfold kG oA
 rw [h2 _ _ h]
 simp only [Option.bind_some,xx]
 by_cases c:ym s d=true
 ·rw [if_neg (by simp [c]),if_pos c]
  unfold jd
  rw [h1 _ _ h]; rfl
 ·rw [if_pos (by simpa using c),if_neg c]
def VG (f g:Int) (s1 d1 s2 d2:List Int):Prop:=zG s1∧zG d1∧zG s2∧zG d2
def fe (f g:Int) (s1 d1 s2 d2:List Int):Prop:=VG f g s1 d1 s2 d2
def cD (f:Int) (v:List Int):Nat→Int→Except Int Int
 | 0,acc=> .ok acc
 | i+1,acc=>match two f (v.getD i 0) acc with
   | .ok z=>cD f v i z
   | .error c=> .error c
def col (b:List Int) (C n j:Nat):List Int:=(List.range n).map fun k=>b.getD (k * C+j) 0
def nD (f g:Int) (a b:List Int) (n C i j:Nat):Except Int Int:=match xn g (yS a n i) (col b C n j) with
 | .error c=> .error c
 | .ok v=>if n=0 then (match sW f with
     | some z=> .ok z
     | none=> .error 1) else cD f v (n - 1) (v.getD (n - 1) 0)
def sZ (h:Nat→Except Int Int):Nat→Nat→Except Int (List Int)
 | 0,j=> .ok []
 | m+1,j=>match h j with
   | .ok z=>match sZ h m (j+1) with
     | .ok l=> .ok (z :: l)
     | .error c=> .error c
   | .error c=> .error c
def rp (h:Nat→Nat→Except Int Int) (C:Nat):Nat→Nat→Except Int (List Int)
 | 0,i=> .ok []
 | m+1,i=>match sZ (h i) C 0 with
   | .ok l=>match rp h C m (i+1) with
     | .ok l'=> .ok (l++l')
     | .error c=> .error c
   | .error c=> .error c
def OJ (f g:Int) (sa a sb b:List Int):Except Int (List Int×List Int):=
 if xi (sa.dropLast++sb.tail)=true then yO (sa.dropLast++sb.tail) [] (rp (nD f g a b (sb.headD 0).toNat (sb.tail.foldl wb 1).toNat) (sb.tail.foldl wb 1).toNat (sa.dropLast.foldl wb 1).toNat 0) else .error 6
def nh (f g:Int) (s1 d1 s2 d2:List Int):List Int×List Int×Int:=
 if ((1 ≤ f∧f ≤ 10)∧1 ≤ g∧g ≤ 10)∧ym s1 d1=true∧ym s2 d2=true then (if s1.length=0 ∨ s2.length=0 then ([],[],2) else if s1.getLastD 0=s2.headD 0 then tri (OJ f g s1 d1 s2 d2) else ([],[],3)) else ([],[],9)
def l8 (f g:Int) (s1 d1 s2 d2:List Int):List Int×List Int×Int:=nh f g s1 d1 s2 d2
theorem Gd (b:List Int) (C n j:Nat):(col b C n j).length=n:=by simp [col]
theorem Gw {b:List Int} {C n j k:Nat} (hk:k < n):(col b C n j)[k]? =some (b.getD (k * C+j) 0):=by simp [col,hk]
theorem W7 {b:List Int} (hb:∀ x ∈ b,zO x) (k:Nat):zO (b.getD k 0):=by
 rw [List.getD_eq_getElem?_getD]
 cases h:b[k]? with
 | none=>unfold zO; simp
 | some x=>exact hb x (List.mem_of_getElem? h)
theorem V4 {b:List Int} {k:Nat} (h:k < b.length):b[k]? =some (b.getD k 0):=by
 rw [List.getD_eq_getElem?_getD,List.getElem?_eq_getElem h]; rfl
theorem Bm {n C k j:Nat} (hk:k < n) (hj:j < C):k * C+j < n * C:=by
 have:=Nat.mul_le_mul_right C (show k+1 ≤ n from hk)
 rw [Nat.add_mul,Nat.one_mul] at this
 omega
theorem Wy {h:Nat→Except Int Int}:∀ {m j:Nat} {l:List Int},sZ h m j= .ok l→l.length=m
 | 0,j,l,e=>by simp only [sZ,Except.ok.injEq] at e; subst e; rfl
 | m+1,j,l,e=>by
   simp only [sZ] at e
   cases h1:h j with
   | error c=>rw [h1] at e; cases e
   | ok z=>
     rw [h1] at e
     cases h2:sZ h m (j+1) with
     | error c=>rw [h2] at e; cases e
     | ok l'=>
       rw [h2] at e
       simp only [Except.ok.injEq] at e
       subst e
       simp [Wy h2]
section
variable (L1:Int→Option (Alt Unit Nat)) (L2:List Int→List Int→Option Bool) (L3:List (List Int)→Option (Res (List Int))) (L4:List Int→Option (Res (List Int×Option Nat×List Int)))
 (L5:Int→Option (Res Int)) (h5:∀ op,sE op→L5 op=some (wR op))
 (L7:D→Int→List Int→List Int→Option Int) (h7:∀ x a s d,xV x a s d→L7 (vB x) a s d=some (wy x a s d))
 (Ld:Nat→Int→Int→Option (Res Int)) (fn gn:Nat) (f g:Int) (hDf:∀ x y,zO x→zO y→Ld fn x y=some (vD (xc f x y))) (hDg:∀ x y,zO x→zO y→Ld gn x y=some (vD (xc g x y)))
include h5 h7 hDf hDg
theorem Ue (K:Nat→Nat→Int→Int→Int→Int→Int→Int→Int→List Int→List Int→List Int→List Int→List Int→List Int→Option (List Int×List Int×Int)) (x14 x18 x19 x116 x117 x120 x121:Int) (sa a sb b s' d' v:List Int)
  (hv:∀ x ∈ v,zO x) (hl:v.length ≤ 1000) (hd:d'.length < 1000):∀ (i e:Nat) (acc:Int),i ≤ v.length→zO acc→
  te L1 L2 L3 L4 L5 L7 Ld K (i+1+e) fn gn x14 x18 x19 acc ((i:Int) - 1) x116 x117 x120 x121 sa a sb b s' d' v=match cD f v i acc with
   | .ok z=>K fn gn x14 x18 x19 x116 x117 x120 (w64 (x121+1)) sa a sb b s' (d'++[z])
   | .error c=>some ([],[],c)
 | 0,e,acc,hi,ha=>by
   rw [show 0+1+e=e+1 by omega]
   simp only [te]
   rw [if_neg (by omega),if_pos (yR (by unfold zG; simp; omega))]
   simp [cD]
 | i+1,e,acc,hi,ha=>by
   rw [show i+1+1+e=(i+1+e)+1 by omega]
   simp only [te]
   have e1:(((i+1:Nat):Int) - 1)=(i:Int):=by omega
   rw [e1,if_pos (by omega),if_pos (by omega),Int.toNat_natCast,V4 (show i < v.length by omega)]
   simp only [Option.bind_some]
   rw [hDf _ _ (W7 hv i) ha]
   simp only [Option.bind_some,vD,cD]
   by_cases c:(xc f (v.getD i 0) acc).2=0
   ·rw [if_pos c,kg c]
    simp only [Res.on]
    rw [show w64 ((i:Int) - 1)=(i:Int) - 1 from zY (by omega)]
    exact Ue K x14 x18 x19 x116 x117 x120 x121 sa a sb b s' d' v hv hl hd i e _ (by omega) (Ra (W7 hv i) ha (kg c))
   ·rw [if_neg c,jb c]
    simp only [Res.on]
    rw [h7 _ _ _ _ trivial]; rfl
theorem Ul (K:Nat→Nat→Int→Int→Int→Int→Int→Int→Int→List Int→List Int→List Int→List Int→List Int→List Int→Option (List Int×List Int×Int)) (n R C i j N M:Nat) (hN:N=n+1+M) (x116 x117 x120 x121:Int) (sa a sb b s' d':List Int)
  (hn1:1 ≤ n) (hn:n ≤ 1000) (hj:j < C) (hi:i < R) (ha:R * n ≤ a.length) (has:a.length ≤ 1000) (hb:n * C ≤ b.length) (hbs:b.length ≤ 1000) (ca:∀ x ∈ a,zO x) (cb:∀ x ∈ b,zO x) (hd:d'.length < 1000):
  ∀ (r t v:List Int) (e:Nat),(yS a n i).drop v.length=r→(col b C n j).drop v.length=t→v.length+r.length=n→(∀ x ∈ v,zO x)→
  tf L1 L2 L3 L4 L5 L7 Ld N K (r.length+1+e) fn gn n C i j x116 x117 x120 x121 n v.length sa a sb b s' d' (v++List.replicate r.length 0)=match xn g r t with
   | .ok l=>(match cD f (v++l) (n - 1) ((v++l).getD (n - 1) 0) with
     | .ok z=>K fn gn n C i x116 x117 x120 (w64 (x121+1)) sa a sb b s' (d'++[z])
     | .error c=>some ([],[],c))
   | .error c=>some ([],[],c)
 | [],t,v,e,hr,ht,hv,hin=>by
   rw [show ([]:List Int).length+1+e=e+1 by simp; omega]
   simp only [tf]
   simp only [List.length_nil,Nat.add_zero] at hv
   have e1:w64 ((n:Int) - 1)=((n - 1:Nat):Int):=by rw [zY (by omega)]; omega
   have e2:w64 ((n:Int) - 2)=((n - 1:Nat):Int) - 1:=by rw [zY (by omega)]; omega
   have e3:v++List.replicate ([]:List Int).length 0=v:=by simp
   rw [e3,if_neg (by omega),e1,e2,if_pos (by omega),Int.toNat_natCast,V4 (show n - 1 < v.length by omega)]
   simp only [Option.bind_some,xn,List.append_nil]
   rw [hN,show n+1+M=(n - 1)+1+(1+M) by omega]
   exact Ue L1 L2 L3 L4 L5 h5 L7 h7 Ld fn gn f g hDf hDg K n C i x116 x117 x120 x121 sa a sb b s' d' v hin (by omega) hd (n - 1) (1+M) _ (by omega) (W7 hin _)
 | x :: r,t,v,e,hr,ht,hv,hin=>by
   obtain ⟨g1,g2,g3,g4,g5,g6⟩:=xZ hr
   have hin':=Nat.mul_le_mul_right n (show i+1 ≤ R from hi)
   have hin2:=hin'
   rw [Nat.add_mul,Nat.one_mul] at hin2
   have hrl:(yS a n i).length=n:=uf (by omega)
   rw [hrl] at g1
   have hcl:=Gd b C n j
   cases t with
   | nil=>
     have:=congrArg List.length ht
     rw [List.length_drop,hcl] at this
     simp at this; omega
   | cons y t=>
     obtain ⟨k1,k2,k3,k4,k5,k6⟩:=xZ ht
     have hxa:a[i * n+v.length]? =some x:=by rw [← WR g1]; exact g4
     have hlt:=Bm g1 hj
     have hyb:b[v.length * C+j]? =some y:=by
      rw [Gw g1] at k4
      rw [V4 (by omega)]; exact k4
     have hx:=ca x (List.mem_of_getElem? hxa)
     have hy:=cb y (List.mem_of_getElem? hyb)
     have e0:(i:Int) * n=((i * n:Nat):Int):=by simp
     have e0':(v.length:Int) * C=((v.length * C:Nat):Int):=by simp
     have e1:w64 (w64 ((i:Int) * n)+(v.length:Int))=((i * n+v.length:Nat):Int):=by
      rw [zY (n:=(i:Int) * n) (by omega),zY (by omega)]; omega
     have e1':w64 (w64 ((v.length:Int) * C)+(j:Int))=((v.length * C+j:Nat):Int):=by
      rw [zY (n:=(v.length:Int) * C) (by omega),zY (by omega)]; omega
     have e2:0 ≤ (v.length:Int)∧(v.length:Int) < ((v++List.replicate (x :: r).length 0).length:Int):=by simp only [List.length_append,List.length_replicate,List.length_cons]; omega
     have e4:∀ z:Int,dM (v++List.replicate (x :: r).length 0) v.length z=some ((v++[z])++List.replicate r.length 0):=by
      intro z
      rw [dM,if_pos (by simp)]
      simp [List.replicate_succ]
     rw [show (x :: r).length+1+e=(r.length+1+e)+1 by simp; omega]
     simp only [tf]
     rw [if_pos (by omega),e1,iU,hxa]
     simp only [Option.bind_some]
     rw [e1',iU,hyb]
     simp only [Option.bind_some]
     rw [hDg x y hx hy]
     simp only [Option.bind_some,vD,xn]
     by_cases c:(xc g x y).2=0
     ·rw [if_pos c,kg c]
      simp only [Res.on]
      rw [if_pos e2,Int.toNat_natCast,e4]
      simp only [Option.bind_some]
      rw [va (n:=n) g1 (by rw [wB]; omega)]
      have key:=Ul K n R C i j N M hN x116 x117 x120 x121 sa a sb b s' d' hn1 hn hj hi ha has hb hbs ca cb hd r t (v++[(xc g x y).1]) e (by simpa using g5) (by simpa using k5) (by simp at hv ⊢; omega) (fun z hz=>by
       rcases List.mem_append.1 hz with hz | hz
       ·exact hin z hz
       ·simp only [List.mem_singleton] at hz; subst hz; exact Ra hx hy (kg c))
      simp only [List.length_append,List.length_cons,List.length_nil,Nat.zero_add] at key
      rw [key]
      cases xn g r t <;> simp
     ·rw [if_neg c,jb c]
      simp only [Res.on]
      rw [h7 _ _ _ _ trivial]; rfl
theorem Uv (K:Nat→Nat→Int→Int→Int→Int→List Int→List Int→List Int→List Int→List Int→List Int→Option (List Int×List Int×Int)) (n R C i N M:Nat) (hN:N=n+1+M) (sa a sb b s':List Int)
  (hn1:1 ≤ n) (hn:n ≤ 1000) (hi:i < R) (hC:C ≤ 1001) (ha:R * n ≤ a.length) (has:a.length ≤ 1000) (hb:n * C ≤ b.length) (hbs:b.length ≤ 1000) (ca:∀ x ∈ a,zO x) (cb:∀ x ∈ b,zO x):∀ (m j e:Nat) (d':List Int),j+m=C→d'.length+m ≤ 1000→
  uu L1 L2 L3 L4 L5 L7 Ld N K (m+1+e) fn gn n C i R i C j sa a sb b s' d'=match sZ (nD f g a b n C i) m j with
   | .ok l=>K fn gn n C R (w64 ((i:Int)+1)) sa a sb b s' (d'++l)
   | .error c=>some ([],[],c)
 | 0,j,e,d',hj,hd=>by
   rw [show 0+1+e=e+1 by omega]
   simp only [uu]
   rw [if_neg (by omega)]; simp [sZ]
 | m+1,j,e,d',hj,hd=>by
   rw [show m+1+1+e=(m+1+e)+1 by omega]
   simp only [uu]
   have hin':=Nat.mul_le_mul_right n (show i+1 ≤ R from hi)
   have hrl:(yS a n i).length=n:=uf (by omega)
   rw [if_pos (by omega),if_pos (by unfold Za sm; omega),Int.toNat_natCast]
   have key:=Ul L1 L2 L3 L4 L5 h5 L7 h7 Ld fn gn f g hDf hDg (uu L1 L2 L3 L4 L5 L7 Ld N K (m+1+e)) n R C i j N M hN R i C j sa a sb b s' d' hn1 hn (by omega) hi ha has hb hbs ca cb (by omega) (yS a n i) (col b C n j) [] M rfl rfl (by simpa using hrl) (by simp)
   rw [hrl,← hN] at key
   simp only [List.length_nil,List.nil_append] at key
   refine key.trans ?_
   simp only [sZ,nD]
   cases xn g (yS a n i) (col b C n j) with
   | error c=>rfl
   | ok v=>
     simp only
     rw [if_neg (by omega)]
     cases cD f v (n - 1) (v.getD (n - 1) 0) with
     | error c=>rfl
     | ok z=>
       simp only
       have ih:=Uv K n R C i N M hN sa a sb b s' hn1 hn hi hC ha has hb hbs ca cb m (j+1) e (d'++[z]) (by omega) (by simp; omega)
       rw [va (n:=C) (by omega) (by rw [wB]; omega),ih]
       cases sZ (nD f g a b n C i) m (j+1) <;> simp
theorem Ut (n R C N M M':Nat) (hN:N=n+1+M) (hN':N=C+1+M') (sa a sb b s':List Int)
  (hn1:1 ≤ n) (hn:n ≤ 1000) (hC:C ≤ 1001) (hR:R ≤ 1001) (ha:R * n ≤ a.length) (has:a.length ≤ 1000) (hb:n * C ≤ b.length) (hbs:b.length ≤ 1000) (ca:∀ x ∈ a,zO x) (cb:∀ x ∈ b,zO x):∀ (m i e:Nat) (d':List Int),i+m=R→d'.length+m * C ≤ 1000→
  uo L1 L2 L3 L4 L5 L7 Ld N (m+1+e) fn gn n C R i sa a sb b s' d'=some (tri (yO s' d' (rp (nD f g a b n C) C m i)))
 | 0,i,e,d',hi,hd=>by
   rw [show 0+1+e=e+1 by omega]
   simp only [uo]
   rw [if_neg (by omega)]; simp [rp,yO,tri]
 | m+1,i,e,d',hi,hd=>by
   rw [Nat.add_mul,Nat.one_mul] at hd
   rw [show m+1+1+e=(m+1+e)+1 by omega]
   simp only [uo]
   rw [if_pos (by omega)]
   have key:=Uv L1 L2 L3 L4 L5 h5 L7 h7 Ld fn gn f g hDf hDg (uo L1 L2 L3 L4 L5 L7 Ld N (m+1+e)) n R C i N M hN sa a sb b s' hn1 hn (by omega) hC ha has hb hbs ca cb C 0 M' d' (by omega) (by omega)
   rw [← hN'] at key
   refine key.trans ?_
   simp only [rp]
   cases hJ:sZ (nD f g a b n C i) C 0 with
   | error c=>rfl
   | ok l=>
     simp only
     have:=Wy hJ
     rw [va (n:=R) (by omega) (by rw [wB]; omega),Ut n R C N M M' hN hN' sa a sb b s' hn1 hn hC hR ha has hb hbs ca cb m (i+1) e (d'++l) (by omega) (by simp; omega)]
     cases rp (nD f g a b n C) C m (i+1) <;> simp [yO]
theorem Uq (P:Nat) (hP:P ≤ 1000) (s':List Int):∀ (m j e:Nat) (d':List Int),j+m=P→d'.length+m ≤ 1000→
  tm L1 L2 L3 L4 L5 L7 Ld (m+1+e) f P j s' d'=some (tri (yO s' d' (match sW f with
   | some z=> .ok (List.replicate m z)
   | none=>if m=0 then .ok [] else .error 1)))
 | 0,j,e,d',hj,hd=>by
   rw [show 0+1+e=e+1 by omega]
   simp only [tm]
   rw [if_neg (by omega)]
   cases sW f <;> simp [yO,tri]
 | m+1,j,e,d',hj,hd=>by
   rw [show m+1+1+e=(m+1+e)+1 by omega]
   simp only [tm]
   rw [if_pos (by omega),h5 _ trivial]
   simp only [Option.bind_some,wR]
   cases hz:sW f with
   | none=>
     simp only [Res.on]
     rw [h7 _ _ _ _ trivial]; rfl
   | some z=>
     simp only [Res.on]
     have ih:=Uq P hP s' m (j+1) e (d'++[z]) (by omega) (by simp; omega)
     rw [hz] at ih
     rw [if_pos (yR (by unfold zG; simp; omega)),va (n:=P) (by omega) (by rw [wB]; omega),ih]
     simp [yO,List.replicate_succ]
end
theorem aY (a b:List Int):zN (a++b)=zN a * zN b:=by
 induction a with
 | nil=>simp [zN]
 | cons x a ih=>simp only [List.cons_append,zN,ih,Int.mul_assoc]
theorem E3 {l:List Int} (hl:l.length ≤ 3) (ha:l.all s6=true):Tx (zN l) (l.foldl wb 1):=by
 have e:l.foldl jf 1=zN l:=by
  rw [Tz l 1 1 (by omega) (by omega) ?_ ha,Int.one_mul]
  rw [Int.one_mul]
  have:l.length=0 ∨ l.length=1 ∨ l.length=2 ∨ l.length=3:=by omega
  rcases this with h | h | h | h <;> rw [h] <;> decide
 have hc:=dW l hl ha
 rw [e] at hc
 exact hc
theorem zc (y k:Nat):((0 * k:Nat):Int)=((0:Nat):Int) * (y:Int):=by simp
theorem cz (x k:Nat):((k * 0:Nat):Int)=(x:Int) * ((0:Nat):Int):=by simp
theorem R4 {init tb a b:List Int} {n:Nat} (ha:ym (init++[(n:Int)]) a=true) (hb:ym ((n:Int) :: tb) b=true) (hf:xi (init++tb)=true):
  ∃ R C:Nat,init.foldl wb 1=R∧tb.foldl wb 1=C∧n ≤ 1000∧R ≤ 1001∧C ≤ 1001∧R * n ≤ a.length∧n * C ≤ b.length∧((R * C:Nat):Int)=zN (init++tb)∧R * C ≤ 1000∧(1 ≤ n→a.length=R * n∧b.length=n * C):=by
 have la:=ju ha
 have lb:=ju hb
 obtain ⟨fa1,fa2,fa3⟩:=(uJ _).1 (z5 ha).2.1
 obtain ⟨fb1,fb2,fb3⟩:=(uJ _).1 (z5 hb).2.1
 obtain ⟨f1,f2,f3⟩:=(uJ _).1 hf
 rw [aY] at f3 fa3 la
 rw [List.all_append,Bool.and_eq_true] at fa2 f2
 simp only [List.length_append,List.length_cons,List.length_nil] at fa1 fb1 f1
 have hn:n ≤ 1000:=by
  have:=fa2.2
  simp [s6] at this; omega
 have e1:zN [(n:Int)]=n:=by simp [zN]
 rw [e1] at fa3 la
 rw [zN] at fb3 lb
 obtain ⟨x,hx⟩:=Int.eq_ofNat_of_zero_le (ke fa2.1)
 obtain ⟨y,hy⟩:=Int.eq_ofNat_of_zero_le (ke f2.2)
 have cx:=E3 (l:=init) (by omega) fa2.1
 have cy:=E3 (l:=tb) (by omega) f2.2
 rw [hx] at cx f3 fa3 la
 rw [hy] at cy f3 fb3 lb
 rw [aY,hx,hy]
 have g1:x * n ≤ 1000:=by
  have:((x * n:Nat):Int) ≤ 1000:=by rw [Int.natCast_mul]; exact fa3
  omega
 have g2:n * y ≤ 1000:=by
  have:((n * y:Nat):Int) ≤ 1000:=by rw [Int.natCast_mul]; exact fb3
  omega
 have g3:x * y ≤ 1000:=by
  have:((x * y:Nat):Int) ≤ 1000:=by rw [Int.natCast_mul]; exact f3
  omega
 have l1:a.length=x * n:=by
  have:(a.length:Int)=((x * n:Nat):Int):=by rw [Int.natCast_mul]; exact la
  omega
 have l2:b.length=n * y:=by
  have:(b.length:Int)=((n * y:Nat):Int):=by rw [Int.natCast_mul]; exact lb
  omega
 by_cases h1:x ≤ 1000
 ·by_cases h2:y ≤ 1000
  ·exact ⟨x,y,cx.1 (by omega),cy.1 (by omega),hn,by omega,by omega,by omega,by omega,by simp,g3,fun _=>⟨l1,l2⟩⟩
  ·have n0:n=0:=by
    rcases Nat.eq_zero_or_pos n with h | h
    ·exact h
    ·have:=Nat.le_mul_of_pos_left y h; omega
   have x0:x=0:=by
    rcases Nat.eq_zero_or_pos x with h | h
    ·exact h
    ·have:=Nat.le_mul_of_pos_left y h; omega
   subst n0 x0
   obtain ⟨k,hk⟩:∃ k:Nat,k=1001:=⟨_,rfl⟩
   have q:=cy.2 (by omega)
   exact ⟨0,k,cx.1 (by omega),by omega,hn,by omega,by omega,by rw [Nat.zero_mul]; exact Nat.zero_le _,by rw [Nat.zero_mul]; exact Nat.zero_le _,zc y k,by rw [Nat.zero_mul]; omega,fun h=>by omega⟩
 ·have n0:n=0:=by
   rcases Nat.eq_zero_or_pos n with h | h
   ·exact h
   ·have:=Nat.le_mul_of_pos_right x h; omega
  have y0:y=0:=by
   rcases Nat.eq_zero_or_pos y with h | h
   ·exact h
   ·have:=Nat.le_mul_of_pos_right x h; omega
  subst n0 y0
  obtain ⟨k,hk⟩:∃ k:Nat,k=1001:=⟨_,rfl⟩
  have q:=cx.2 (by omega)
  exact ⟨k,0,by omega,cy.1 (by omega),hn,by omega,by omega,by rw [Nat.mul_zero]; exact Nat.zero_le _,by rw [Nat.mul_zero]; exact Nat.zero_le _,cz x k,by rw [Nat.mul_zero]; omega,fun h=>by omega⟩
theorem H1 (init:List Int) (x:Int) (h:init.length ≤ 1000):w64 (((init++[x]).length:Int) - 1)=(init.length:Int)∧idx (init++[x]) (init.length:Int)=some x∧cut (init++[x]) 0 (init.length:Int)=some init:=by
 refine ⟨?_,?_,?_⟩
 ·rw [List.length_append,zY (by simp; omega)]; simp
 ·rw [iU]; simp
 ·unfold cut
  rw [if_pos (by simp; omega)]
  simp
theorem YJ {h:Nat→Except Int Int} {z:Int} (e:∀ j,h j= .ok z):∀ m j,sZ h m j= .ok (List.replicate m z)
 | 0,j=>rfl
 | m+1,j=>by simp only [sZ,e,YJ e m (j+1),List.replicate_succ]
theorem YO {h:Nat→Nat→Except Int Int} {C:Nat} {z:Int} (e:∀ i j,h i j= .ok z):∀ m i,rp h C m i= .ok (List.replicate (m * C) z)
 | 0,i=>by simp [rp]
 | m+1,i=>by
   simp only [rp,YJ (e i),YO e m (i+1)]
   rw [Nat.add_mul,Nat.one_mul,Nat.add_comm,List.replicate_append_replicate]
theorem QH {h:Nat→Except Int Int} {c:Int} (e:∀ j,h j= .error c) (m j:Nat):sZ h m j=if m=0 then .ok [] else .error c:=by
 cases m with
 | zero=>rfl
 | succ m=>simp [sZ,e]
theorem YQ {h:Nat→Nat→Except Int Int} {C:Nat} {c:Int} (e:∀ i j,h i j= .error c):∀ m i,rp h C m i=if m * C=0 then .ok [] else .error c
 | 0,i=>by simp [rp]
 | m+1,i=>by
   simp only [rp,QH (e i),YQ e m (i+1)]
   by_cases hC:C=0
   ·subst hC; simp
   ·have:¬ (m+1) * C=0:=by
     rw [Nat.add_mul,Nat.one_mul]; omega
    rw [if_neg hC,if_neg this]
theorem W2 (f g:Int) (a b:List Int) (C i j:Nat):nD f g a b 0 C i j=match sW f with
  | some z=> .ok z
  | none=> .error 1:=by
 unfold nD yS
 simp [xn]
theorem RZ (f g:Int) (a b:List Int) (C R:Nat):rp (nD f g a b 0 C) C R 0=match sW f with
  | some z=> .ok (List.replicate (R * C) z)
  | none=>if R * C=0 then .ok [] else .error 1:=by
 cases hz:sW f with
 | some z=>exact YO (fun i j=>by rw [W2,hz]) R 0
 | none=>exact YQ (fun i j=>by rw [W2,hz]) R 0
theorem Sv (L1:Int→Option (Alt Unit Nat)) (h1:∀ op,pk op→L1 op=some (uD op)) (L2:List Int→List Int→Option Bool) (h2:∀ s d,vO s d→L2 s d=some (xx s d))
  (L3:List (List Int)→Option (Res (List Int))) (h3:∀ l,uc l→L3 l=some (xw l)) (L4:List Int→Option (Res (List Int×Option Nat×List Int))) (h4:∀ l,xz l→L4 l=some (yT l))
  (L5:Int→Option (Res Int)) (h5:∀ op,sE op→L5 op=some (wR op))
  (L7:D→Int→List Int→List Int→Option Int) (h7:∀ x a s d,xV x a s d→L7 (vB x) a s d=some (wy x a s d))
  (Ld:Nat→Int→Int→Option (Res Int)) (hd:∀ f x y,yv f x y→Ld f x y=some (xq f x y))
  (f g:Int) (s1 d1 s2 d2:List Int) (h:fe f g s1 d1 s2 d2):∃ N,kx L1 L2 L3 L4 L5 L7 Ld N f g s1 d1 s2 d2=some (l8 f g s1 d1 s2 d2):=by
 obtain ⟨g1,g2,g3,g4⟩:=h
 refine ⟨(s2.headD 0).toNat+1+((s2.tail.foldl wb 1).toNat+1+((s1.dropLast.foldl wb 1).toNat+1+((zN (s1.dropLast++s2.tail)).toNat+1))),?_⟩
 unfold kx l8 nh
 rw [h1 _ trivial]
 simp only [Option.bind_some]
 rcases fy f with ⟨e1,e2,e3,e4⟩ | ⟨e1,e2⟩
 ·rw [e2]
  simp only [Alt.on]
  rw [h1 _ trivial]
  simp only [Option.bind_some]
  rcases fy g with ⟨k1,k2,k3,k4⟩ | ⟨k1,k2⟩
  ·have hDf:∀ x y,zO x→zO y→Ld (vJ f) x y=some (vD (xc f x y)):=fun x y hx hy=>by rw [hd _ _ _ (fR ⟨e3,e4⟩ hx hy).1,(fR ⟨e3,e4⟩ hx hy).2]
   have hDg:∀ x y,zO x→zO y→Ld (vJ g) x y=some (vD (xc g x y)):=fun x y hx hy=>by rw [hd _ _ _ (fR ⟨k3,k4⟩ hx hy).1,(fR ⟨k3,k4⟩ hx hy).2]
   rw [k2]
   simp only
   rw [h2 _ _ ⟨g1,g2⟩,h2 _ _ ⟨g3,g4⟩]
   simp only [Option.bind_some,xx]
   cases c1:ym s1 d1 with
   | false=>simp
   | true=>
     cases c2:ym s2 d2 with
     | false=>simp
     | true=>
       obtain ⟨a1,a2,a3,a4,a5⟩:=yA c1
       obtain ⟨b1,b2,b3,b4,b5⟩:=yA c2
       rw [if_neg (by simp),if_neg (by simp),if_pos (show ((1 ≤ f∧f ≤ 10)∧1 ≤ g∧g ≤ 10)∧true=true∧true=true from ⟨⟨⟨e3,e4⟩,k3,k4⟩,rfl,rfl⟩)]
       rcases List.eq_nil_or_concat s1 with rfl | ⟨init,na,he⟩
       ·rw [if_pos (show (([]:List Int).length:Int)=0 from rfl),if_pos (show ([]:List Int).length=0 ∨ s2.length=0 from Or.inl rfl)]
       ·rw [List.concat_eq_append] at he
        subst he
        have i1:¬ (((init++[na]).length:Nat):Int)=0:=by
         rw [List.length_append]; simp only [List.length_cons,List.length_nil]; omega
        rw [if_neg i1]
        cases s2 with
        | nil=>rw [if_pos (show (([]:List Int).length:Int)=0 from rfl),if_pos (show (init++[na]).length=0 ∨ ([]:List Int).length=0 from Or.inr rfl)]
        | cons nb tb=>
          obtain ⟨l1,l2,l3⟩:=H1 init na (by simp at a3; omega)
          have nb0:=(wv (z5 c2).2.1).1
          obtain ⟨n,rfl⟩:=Int.eq_ofNat_of_zero_le nb0
          rw [if_neg (by simp only [List.length_cons]; omega),if_neg (by simp),l1,l2,show idx ((n:Int) :: tb) 0=some (n:Int) from rfl]
          simp only [Option.bind_some]
          have hlast:(init++[na]).getLastD 0=na:=by simp
          rw [hlast,show ((n:Int) :: tb).headD 0=(n:Int) from rfl]
          by_cases c3:na=(n:Int)
          ·subst c3
           simp only [List.length_append,List.length_cons,List.length_nil] at a3 b3
           have hs:zG (init++tb):=by unfold zG; simp; omega
           rw [if_pos rfl,if_pos rfl]
           unfold jk
           rw [pj,l3]
           simp only [Option.bind_some]
           rw [h3 _ ⟨init,tb,rfl,by omega,by omega⟩]
           simp only [Option.bind_some,xw,Res.on,List.flatten_cons,List.flatten_nil,List.append_nil]
           rw [h4 _ hs]
           simp only [Option.bind_some]
           have hdl:(init++[(n:Int)]).dropLast=init:=by simp
           unfold OJ
           simp only [hdl,List.tail_cons,List.headD_cons,Int.toNat_natCast]
           by_cases cf:xi (init++tb)=true
           ·obtain ⟨R,C,r1,r2,r3,r4,r5,r6,r7,r8,r9,r10⟩:=R4 c1 c2 cf
            rw [Xx cf,if_pos cf]
            simp only [Option.bind_some,r1,r2,Int.toNat_natCast]
            have hP:(zN (init++tb)).toNat=R * C:=by rw [← r8]; exact Int.toNat_natCast _
            rw [hP]
            by_cases cn:n=0
            ·subst cn
             rw [if_pos (show ((0:Nat):Int)=0 from rfl),RZ]
             have key:=Uq L1 L2 L3 L4 L5 h5 L7 h7 Ld (vJ f) (vJ g) f g hDf hDg (R * C) r9 (init++tb) (R * C) 0 (0+1+(C+1+(R+1))) [] (by omega) (by simpa using r9)
             rw [show R * C+1+(0+1+(C+1+(R+1)))=0+1+(C+1+(R+1+(R * C+1))) by omega] at key
             exact key
            ·have cn':¬ (n:Int)=0:=by omega
             obtain ⟨m1,m2⟩:=r10 (by omega)
             have q1:w64 (Int.tdiv (d2.length:Int) n)=(C:Int):=by
              rw [m2,Int.natCast_mul,Int.mul_tdiv_cancel_left _ cn',zY (by omega)]
             have q2:w64 (Int.tdiv (d1.length:Int) n)=(R:Int):=by
              rw [m1,Int.natCast_mul,Int.mul_tdiv_cancel _ cn',zY (by omega)]
             rw [if_neg cn',if_neg cn',if_neg cn',q1,q2]
             have key:=Ut L1 L2 L3 L4 L5 h5 L7 h7 Ld (vJ f) (vJ g) f g hDf hDg n R C (n+1+(C+1+(R+1+(R * C+1)))) (C+1+(R+1+(R * C+1))) (n+1+(R+1+(R * C+1))) rfl (by omega) (init++[(n:Int)]) d1 ((n:Int) :: tb) d2 (init++tb) (by omega) r3 r5 r4 r6 a4 r7 b4 (z5 c1).1 (z5 c2).1 R 0 (n+1+(C+1+(R * C+1))) [] (by omega) (by simpa using r9)
             rw [show R+1+(n+1+(C+1+(R * C+1)))=n+1+(C+1+(R+1+(R * C+1))) by omega] at key
             exact key
           ·rw [QR cf,if_neg cf]
            simp only
            rw [h7 _ _ _ _ trivial]; rfl
          ·rw [if_neg c3,if_neg c3]
  ·rw [k2]
   simp only [xO,decide_eq_false_iff_not] at k1
   rw [if_neg (fun q=>k1 q.1.2)]
 ·rw [e2]
  simp only [Alt.on]
  rw [h1 _ trivial]
  simp only [xO,decide_eq_false_iff_not] at e1
  rw [if_neg (fun q=>e1 q.1.1)]
  simp only [Option.bind_some]
  cases uD g <;> rfl
def fW (f:Nat) (s1 d1 s2 d2:List Int):Prop:=(∃ op,(1 ≤ op∧op ≤ 10)∧f=vJ op)∧ym s1 d1=true∧ym s2 d2=true
noncomputable def J6 (f:Nat):Int:= @dite Int (∃ op,(1 ≤ op∧op ≤ 10)∧f=vJ op) (Classical.propDecidable _) (fun h=>Classical.choose h) (fun _=>0)
noncomputable def jH (f:Nat) (s1 d1 s2 d2:List Int):Res (List Int×List Int):=tX (eM (J6 f) s1 d1 s2 d2)
theorem LY {a b:Int} (ha:1 ≤ a∧a ≤ 10) (hb:1 ≤ b∧b ≤ 10) (h:vJ a=vJ b):a=b:=by
 have ha':a=1 ∨ a=2 ∨ a=3 ∨ a=4 ∨ a=5 ∨ a=6 ∨ a=7 ∨ a=8 ∨ a=9 ∨ a=10:=by omega
 have hb':b=1 ∨ b=2 ∨ b=3 ∨ b=4 ∨ b=5 ∨ b=6 ∨ b=7 ∨ b=8 ∨ b=9 ∨ b=10:=by omega
 rcases ha' with rfl | rfl | rfl | rfl | rfl | rfl | rfl | rfl | rfl | rfl <;> rcases hb' with rfl | rfl | rfl | rfl | rfl | rfl | rfl | rfl | rfl | rfl <;> first | rfl | (exfalso; revert h; decide)
theorem Q9 {op:Int} (ho:1 ≤ op∧op ≤ 10):J6 (vJ op)=op:=by
 have h:∃ o,(1 ≤ o∧o ≤ 10)∧vJ op=vJ o:=⟨op,ho,rfl⟩
 unfold J6
 rw [dif_pos h]
 exact (LY ho (Classical.choose_spec h).1 (Classical.choose_spec h).2).symm
section
variable (L1:List Int→Option (Res (List Int×Option Nat×List Int))) (L2:List Int→List Int→Option Bool) (Ld:Nat→Int→Int→Option (Res Int)) (f:Nat) (op:Int)
 (hD:∀ x y,zO x→zO y→Ld f x y=some (vD (xc op x y)))
include hD
theorem SS (a b sb s':List Int) (ha:zG a) (ca:∀ x ∈ a,zO x) (cb:∀ x ∈ b,zO x) (z:Int) (hz:idx b 0=some z):∀ (r t:List Int) (j e:Nat) (acc:List Int),a.drop j=r→t=List.replicate r.length z→acc.length=j→
  ro L1 L2 Ld (r.length+1+e) f a a.length j sb b s' acc=some (tX (yO s' acc (xn op t r)))
 | [],t,j,e,acc,hd,hd',hj=>by
   rw [show ([]:List Int).length+1+e=e+1 by simp; omega]
   simp only [ro]
   rw [if_neg (vN hd)]; subst hd'; simp [xn,yO,tX]
 | x :: r,t,j,e,acc,hd,hd',hj=>by
   obtain ⟨g1,g2,g3,g4,g5,g6⟩:=xZ hd
   have hb:a.length ≤ big:=by unfold zG at ha; rw [wB]; omega
   cases t with
   | nil=>simp at hd'
   | cons y t=>
     have hz':y=z∧t=List.replicate r.length z:=by simpa [List.replicate_succ] using hd'
     have k3:idx b 0=some y:=by rw [hz'.1]; exact hz
     rw [show (x :: r).length+1+e=(r.length+1+e)+1 by simp; omega]
     simp only [ro]
     rw [if_pos g2,g3,k3]
     simp only [Option.bind_some]
     rw [hD _ _ (cb y (List.mem_of_getElem? (by rw [← iU]; exact k3))) (ca x (List.mem_of_getElem? g4))]
     simp only [Option.bind_some,vD]
     by_cases c:(xc op y x).2=0
     ·rw [if_pos c]
      simp only [Res.on]
      rw [if_pos (yR (by unfold zG at ha ⊢; simp; omega)),va g1 hb,SS a b sb s' ha ca cb z hz r t (j+1) e _ g5 hz'.2 (by simp [hj]),nl (kg c)]
     ·rw [if_neg c,ly (jb c)]; rfl
theorem Sg (a b sb s':List Int) (ha:zG a) (ca:∀ x ∈ a,zO x) (cb:∀ x ∈ b,zO x) (z:Int) (hz:idx b 0=some z):∀ (r t:List Int) (j e:Nat) (acc:List Int),a.drop j=r→t=List.replicate r.length z→acc.length=j→
  qD L1 L2 Ld (r.length+1+e) f a a.length j sb b s' acc=some (tX (yO s' acc (xn op r t)))
 | [],t,j,e,acc,hd,hd',hj=>by
   rw [show ([]:List Int).length+1+e=e+1 by simp; omega]
   simp only [qD]
   rw [if_neg (vN hd)]; subst hd'; simp [xn,yO,tX]
 | x :: r,t,j,e,acc,hd,hd',hj=>by
   obtain ⟨g1,g2,g3,g4,g5,g6⟩:=xZ hd
   have hb:a.length ≤ big:=by unfold zG at ha; rw [wB]; omega
   cases t with
   | nil=>simp at hd'
   | cons y t=>
     have hz':y=z∧t=List.replicate r.length z:=by simpa [List.replicate_succ] using hd'
     have k3:idx b 0=some y:=by rw [hz'.1]; exact hz
     rw [show (x :: r).length+1+e=(r.length+1+e)+1 by simp; omega]
     simp only [qD]
     rw [if_pos g2,g3,k3]
     simp only [Option.bind_some]
     rw [hD _ _ (ca x (List.mem_of_getElem? g4)) (cb y (List.mem_of_getElem? (by rw [← iU]; exact k3)))]
     simp only [Option.bind_some,vD]
     by_cases c:(xc op x y).2=0
     ·rw [if_pos c]
      simp only [Res.on]
      rw [if_pos (yR (by unfold zG at ha ⊢; simp; omega)),va g1 hb,Sg a b sb s' ha ca cb z hz r t (j+1) e _ g5 hz'.2 (by simp [hj]),nl (kg c)]
     ·rw [if_neg c,ly (jb c)]; rfl
theorem RJ (a b sb s':List Int) (ha:zG a) (ca:∀ x ∈ a,zO x) (cb:∀ x ∈ b,zO x) (hab:a.length=b.length):∀ (r t:List Int) (j e:Nat) (acc:List Int),a.drop j=r→b.drop j=t→acc.length=j→
  rW L1 L2 Ld (r.length+1+e) f a a.length j sb b s' acc=some (tX (yO s' acc (xn op r t)))
 | [],t,j,e,acc,hd,hd',hj=>by
   rw [show ([]:List Int).length+1+e=e+1 by simp; omega]
   simp only [rW]
   rw [if_neg (vN hd)]; simp [xn,yO,tX]
 | x :: r,t,j,e,acc,hd,hd',hj=>by
   obtain ⟨g1,g2,g3,g4,g5,g6⟩:=xZ hd
   have hb:a.length ≤ big:=by unfold zG at ha; rw [wB]; omega
   cases t with
   | nil=>have:=vN hd'; omega
   | cons y t=>
     obtain ⟨k1,k2,k3,k4,k5,k6⟩:=xZ hd'
     rw [show (x :: r).length+1+e=(r.length+1+e)+1 by simp; omega]
     simp only [rW]
     rw [if_pos g2,g3,k3]
     simp only [Option.bind_some]
     rw [hD _ _ (ca x (List.mem_of_getElem? g4)) (cb y (List.mem_of_getElem? k4))]
     simp only [Option.bind_some,vD]
     by_cases c:(xc op x y).2=0
     ·rw [if_pos c]
      simp only [Res.on]
      rw [if_pos (yR (by unfold zG at ha ⊢; simp; omega)),va g1 hb,RJ a b sb s' ha ca cb hab r t (j+1) e _ g5 k5 (by simp [hj]),nl (kg c)]
     ·rw [if_neg c,ly (jb c)]; rfl
end
theorem Qi (L1:List Int→Option (Res (List Int×Option Nat×List Int))) (h1:∀ l,xz l→L1 l=some (yT l)) (L2:List Int→List Int→Option Bool) (h2:∀ a b,wa a b→L2 a b=some (xk a b))
  (Ld:Nat→Int→Int→Option (Res Int)) (hd:∀ f x y,yv f x y→Ld f x y=some (xq f x y)) (f:Nat) (s1 d1 s2 d2:List Int) (h:fW f s1 d1 s2 d2):
  ∃ N,j8 L1 L2 Ld N f s1 d1 s2 d2=some (jH f s1 d1 s2 d2):=by
 obtain ⟨⟨op,ho,rfl⟩,ha,hb⟩:=h
 have hD:∀ x y,zO x→zO y→Ld (vJ op) x y=some (vD (xc op x y)):=fun x y hx hy=>by rw [hd _ _ _ (fR ho hx hy).1,(fR ho hx hy).2]
 obtain ⟨a1,a2,a3,a4,a5⟩:=yA ha
 obtain ⟨b1,b2,b3,b4,b5⟩:=yA hb
 have ca:=(z5 ha).1
 have cb:=(z5 hb).1
 unfold j8 jH eM
 rw [Q9 ho]
 by_cases c1:s1.length=0
 ·obtain ⟨x,rfl,hx⟩:=pY ha c1
  refine ⟨d2.length+1,?_⟩
  rw [if_pos (by omega),if_pos c1,h1 _ b1]
  simp only [Option.bind_some,yT,if_pos (z5 hb).2.1,Res.on,List.headD_cons]
  have key:=SS L1 L2 Ld (vJ op) op hD d2 [x] s1 s2 b2 cb ca x rfl d2 (List.replicate d2.length x) 0 0 [] rfl rfl rfl
  simpa using key
 ·have i1:¬ (s1.length:Int)=0:=by omega
  by_cases c2:s2.length=0
  ·obtain ⟨x,rfl,hx⟩:=pY hb c2
   refine ⟨d1.length+1,?_⟩
   rw [if_neg i1,if_neg c1,if_pos (show (s2.length:Int)=0 by omega),if_pos c2,h1 _ a1]
   simp only [Option.bind_some,yT,if_pos (z5 ha).2.1,Res.on,List.headD_cons]
   have key:=Sg L1 L2 Ld (vJ op) op hD d1 [x] s2 s1 a2 ca cb x rfl d1 (List.replicate d1.length x) 0 0 [] rfl rfl rfl
   simpa using key
  ·have i2:¬ (s2.length:Int)=0:=by omega
   by_cases c3:s1.length=s2.length
   ·refine ⟨d1.length+1,?_⟩
    rw [if_neg i1,if_neg c1,if_neg i2,if_neg c2,if_pos (show (s1.length:Int)=s2.length by omega),if_pos c3,h2 _ _ a1,h1 _ a1]
    simp only [Option.bind_some,xk,yT,if_pos (z5 ha).2.1,Res.on]
    by_cases c4:s1=s2
    ·subst c4
     rw [if_neg (by simp),if_pos rfl]
     have key:=RJ L1 L2 Ld (vJ op) op hD d1 d2 s1 s1 a2 ca cb (by omega) d1 d2 0 0 [] rfl rfl rfl
     simpa using key
    ·rw [if_pos (by simp [c4]),if_neg c4]; rfl
   ·refine ⟨0,?_⟩
    rw [if_neg i1,if_neg c1,if_neg i2,if_neg c2,if_neg (show ¬ (s1.length:Int)=s2.length by omega),if_neg c3]; rfl
def VF (op:Int) (s1 d1 s2 d2:List Int):Prop:=zG s1∧zG d1∧zG s2∧zG d2
def gW (op:Int) (s1 d1 s2 d2:List Int):Prop:=VF op s1 d1 s2 d2
def oQ (op:Int) (s1 d1 s2 d2:List Int):List Int×List Int×Int:=if (1 ≤ op∧op ≤ 10)∧ym s1 d1=true∧ym s2 d2=true then tri (eM op s1 d1 s2 d2) else ([],[],9)
def kJ (op:Int) (s1 d1 s2 d2:List Int):List Int×List Int×Int:=oQ op s1 d1 s2 d2
theorem SD (L1:Int→Option (Alt Unit Nat)) (h1:∀ op,pk op→L1 op=some (uD op)) (L2:List Int→List Int→Option Bool) (h2:∀ s d,vO s d→L2 s d=some (xx s d))
  (L3:Nat→List Int→List Int→List Int→List Int→Option (Res (List Int×List Int))) (h3:∀ f s1 d1 s2 d2,fW f s1 d1 s2 d2→L3 f s1 d1 s2 d2=some (jH f s1 d1 s2 d2))
  (L7:D→Int→List Int→List Int→Option Int) (h7:∀ x a s d,xV x a s d→L7 (vB x) a s d=some (wy x a s d))
  (op:Int) (s1 d1 s2 d2:List Int) (h:gW op s1 d1 s2 d2):∃ N,kC L1 L2 L3 L7 N op s1 d1 s2 d2=some (kJ op s1 d1 s2 d2):=by
 obtain ⟨g1,g2,g3,g4⟩:=h
 refine ⟨0,?_⟩
 unfold kC kJ oQ
 rw [h1 _ trivial]
 simp only [Option.bind_some]
 rcases fy op with ⟨e1,e2,e3,e4⟩ | ⟨e1,e2⟩
 ·rw [e2]
  simp only [Alt.on]
  rw [h2 _ _ ⟨g1,g2⟩,h2 _ _ ⟨g3,g4⟩]
  simp only [Option.bind_some,xx]
  cases c1:ym s1 d1 with
  | false=>simp
  | true=>
    cases c2:ym s2 d2 with
    | false=>simp
    | true=>
      rw [if_neg (by simp),if_neg (by simp),if_pos ⟨⟨e3,e4⟩,rfl,rfl⟩]
      unfold jc
      rw [h3 _ _ _ _ _ ⟨⟨op,⟨e3,e4⟩,rfl⟩,c1,c2⟩]
      simp only [Option.bind_some,jH,Q9 ⟨e3,e4⟩]
      cases eM op s1 d1 s2 d2 with
      | ok p=>rfl
      | error c=>
        simp only [tX,Res.on]
        rw [h7 _ _ _ _ trivial]; rfl
 ·rw [e2]
  simp only [xO,decide_eq_false_iff_not] at e1
  rw [if_neg (fun q=>e1 q.1)]; rfl
def pR (c:List Int):Prop:=c.length ≤ 9223372036854775807∧∀ x ∈ c,0 ≤ x∧x ≤ 255
def eg (c:List Int):Bool:=true
theorem Su {op:Int} {s d:List Int} (h:pA op s d):zG (xy op s d).1∧zG (xy op s d).2.1:=by
 have z:zG ([]:List Int)∧zG ([]:List Int):=⟨Nat.zero_le _,Nat.zero_le _⟩
 unfold xy
 split
 ·rename_i c
  cases hf:vv op s d (s.headD 0) with
  | error c=>exact z
  | ok p=>
    have hk:s=[] ∨ ∃ n t,s=n :: t∧0 ≤ s.headD 0∧s.headD 0 ≤ n:=by
     cases s with
     | nil=>exact .inl rfl
     | cons n t=>exact .inr ⟨n,t,rfl,(wv (z5 c.2).2.1).1,Int.le_refl n⟩
    obtain ⟨p1,p2,p3⟩:=fJ c.2 hk hf
    have hs:s.length ≤ 1048576:=h.1
    simp only [tri]
    refine ⟨?_,by unfold zG; omega⟩
    rw [p1]; unfold zG; simp only [List.length_tail]; omega
 ·exact z
theorem Fw {n:Int} {t d:List Int} (h:ym (n :: t) d=true) (hn:1 ≤ n) {e:List Int} (he:e.length=(zN t).toNat) (hc:∀ z ∈ e,zO z):ym (1 :: t) e=true:=by
 obtain ⟨n0,n1,p0,p1,t2⟩:=wv (z5 h).2.1
 refine fV (eS (z5 h).2.1 (by omega)) ?_ hc
 rw [he,zN]
 omega
theorem X9 {n:Int} {t d:List Int} (h:ym (n :: t) d=true) (hn:1 ≤ n):lw 2 [] [1] (n :: t) d=(1 :: t,d.take (zN t).toNat,0):=by
 unfold lw
 rw [if_pos ⟨by decide,by decide,h⟩]
 unfold OF
 rw [if_neg (by decide),if_pos rfl,bS (n:=n) (t:=t) rfl rfl,if_pos rfl,if_neg (by decide),gz,if_pos (by exact eS (z5 h).2.1 (by omega))]
 have:=bL (d:=d) (w:=(zN t).toNat) (n:=n) 1 0 (by omega)
 simp only [tri]
 rw [show (1:Int).toNat=1 from rfl,show (0:Int)=((0:Nat):Int) from rfl,this]
 simp
theorem M6 {n:Int} {t d:List Int} (h:ym (n :: t) d=true) (hn:1 ≤ n):lw 2 [] [-1] (n :: t) d=(1 :: t,(d.drop ((n.toNat - 1) * (zN t).toNat)).take (zN t).toNat,0):=by
 unfold lw
 rw [if_pos ⟨by decide,by decide,h⟩]
 unfold OF
 rw [if_neg (by decide),if_pos rfl,bS (n:=n) (t:=t) rfl rfl,if_pos rfl,if_pos (by decide),gz,if_pos (by exact eS (z5 h).2.1 (by omega))]
 have:=bL (d:=d) (w:=(zN t).toNat) (n:=n) 1 (n.toNat - 1) (by omega)
 simp only [tri]
 rw [show (-(-1):Int).toNat=1 from rfl,show n+-1=((n.toNat - 1:Nat):Int) by omega,this,Nat.one_mul]
 rfl
theorem cA {op n:Int} {t d:List Int}:vv op (n :: t) d 1= .ok (t,d.take (zN t).toNat):=by
 rw [pQ (by omega)]
 simp [su,yO,yS]
theorem PN {n:Int} {t e:List Int} (h:ym (1 :: t) e=true) (he:e.length=(zN t).toNat):xy 7 (1 :: t) e=(t,e,0):=by
 unfold xy
 rw [if_pos ⟨by decide,h⟩,List.headD_cons,cA,List.take_of_length_le (by omega)]
 rfl
theorem ZF {op n:Int} {t d:List Int} (h:ym (n :: t) d=true):∀ {m:Nat} {k:Int} {l:List (List Int)},1 ≤ k→k+m ≤ n+1→vg op (n :: t) d m k= .ok l→l.length=m∧l.flatten.length=m * (zN t).toNat
 | 0,k,l,hk,hm,hs=>by simp only [vg,Except.ok.injEq] at hs; subst hs; simp
 | m+1,k,l,hk,hm,hs=>by
   simp only [vg] at hs
   cases h1:vv op (n :: t) d k with
   | error c=>rw [h1] at hs; cases hs
   | ok p=>
     rw [h1] at hs
     cases h2:vg op (n :: t) d m (k+1) with
     | error c=>rw [h2] at hs; cases hs
     | ok l'=>
       rw [h2] at hs
       simp only [Except.ok.injEq] at hs
       subst hs
       obtain ⟨e1,e2,e3⟩:=fJ h (.inr ⟨n,t,rfl,by omega,by omega⟩) h1
       obtain ⟨f1,f2⟩:=ZF h (by omega) (by omega) h2
       have e2':=e2.resolve_left (by simp)
       simp only [List.tail_cons] at e2'
       refine ⟨by simp [f1],?_⟩
       rw [List.flatten_cons,List.length_append,f2,e2',Nat.add_mul,Nat.one_mul]; omega
theorem Pj {op:Int} {d:List Int} {w:Nat} (hd:∀ x ∈ d,zO x):∀ {i:Nat} {acc l:List Int},(∀ x ∈ acc,zO x)→su op d w i acc= .ok l→∀ z ∈ l,zO z
 | 0,acc,l,ha,h=>by simp only [su,Except.ok.injEq] at h; subst h; exact ha
 | i+1,acc,l,ha,h=>by
   simp only [su] at h
   cases h1:xn op (yS d w i) acc with
   | error c=>rw [h1] at h; cases h
   | ok v=>
     rw [h1] at h
     exact Pj hd (bx (kZ hd) ha h1) h
theorem Zy {op n k:Int} {t d:List Int} (h:ym (n :: t) d=true) (hk:1 ≤ k∧k ≤ n) {p:List Int×List Int} (hp:vv op (n :: t) d k= .ok p):
  p.1=t∧p.2.length=(zN t).toNat∧(∀ z ∈ p.2,zO z):=by
 have hl:=fJ h (.inr ⟨n,t,rfl,by omega,hk.2⟩) hp
 refine ⟨hl.1,hl.2.1.resolve_left (by simp),?_⟩
 rw [pQ (by omega)] at hp
 have hc:=(z5 h).1
 cases hr:su op d (zN t).toNat (k - 1).toNat (yS d (zN t).toNat (k - 1).toNat) with
 | error c=>rw [hr] at hp; cases hp
 | ok l=>
   rw [hr] at hp
   simp only [yO,Except.ok.injEq] at hp
   subst hp
   simpa using Pj hc (kZ hc) hr
theorem Wb {op:Int} {s d:List Int}:∀ {m:Nat} {k:Int} {l:List (List Int)},vg op s d (m+1) k= .ok l→∃ l0 p,l=l0++[p.2]∧vv op s d (k+m)= .ok p
 | 0,k,l,h=>by
   simp only [vg] at h
   cases h1:vv op s d k with
   | error c=>rw [h1] at h; cases h
   | ok p=>
     rw [h1] at h
     simp only [Except.ok.injEq] at h
     subst h
     exact ⟨[],p,rfl,by simpa using h1⟩
 | m+1,k,l,h=>by
   rw [vg] at h
   cases h1:vv op s d k with
   | error c=>rw [h1] at h; cases h
   | ok p=>
     rw [h1] at h
     simp only at h
     cases h2:vg op s d (m+1) (k+1) with
     | error c=>rw [h2] at h; cases h
     | ok l'=>
       rw [h2] at h
       simp only [Except.ok.injEq] at h
       subst h
       obtain ⟨l0,q,rfl,hq⟩:=Wb h2
       exact ⟨p.2 :: l0,q,rfl,by rw [← hq]; congr 1; omega⟩
theorem YC {op:Int} {s d:List Int} {m:Nat} {k:Int} {l:List (List Int)} (h:vg op s d (m+1) k= .ok l):∃ l0 p,l=p.2 :: l0∧vv op s d k= .ok p:=by
 rw [vg] at h
 cases h1:vv op s d k with
 | error c=>rw [h1] at h; cases h
 | ok p=>
   rw [h1] at h
   simp only at h
   cases h2:vg op s d m (k+1) with
   | error c=>rw [h2] at h; cases h
   | ok l'=>
     rw [h2] at h
     simp only [Except.ok.injEq] at h
     exact ⟨l',p,h.symm,rfl⟩
theorem Sr {op n:Int} {t d:List Int} (h:ym (n :: t) d=true):∀ {m:Nat} {k:Int} {l:List (List Int)},1 ≤ k→k+m ≤ n+1→vg op (n :: t) d m k= .ok l→∀ r ∈ l,∀ z ∈ r,zO z
 | 0,k,l,hk,hm,hs=>by simp only [vg,Except.ok.injEq] at hs; subst hs; simp
 | m+1,k,l,hk,hm,hs=>by
   obtain ⟨l0,p,rfl,hp⟩:=YC hs
   rw [vg,hp] at hs
   simp only at hs
   cases h2:vg op (n :: t) d m (k+1) with
   | error c=>rw [h2] at hs; cases hs
   | ok l'=>
     rw [h2] at hs
     simp only [Except.ok.injEq,List.cons.injEq,true_and] at hs
     subst hs
     intro r hr
     simp only [List.mem_cons] at hr
     rcases hr with rfl | hr
     ·exact (Zy h ⟨hk,by omega⟩ hp).2.2
     ·exact Sr h (by omega) (by omega) h2 r hr
theorem Mg {op n:Int} {t d:List Int} (h:ym (n :: t) d=true) (hn:1 ≤ n) {l:List (List Int)} (hs:vg op (n :: t) d n.toNat 1= .ok l):ym (n :: t) l.flatten=true:=by
 have hl:=(ZF h (by omega) (by omega) hs).2
 obtain ⟨n0,n1,p0,p1,t2⟩:=wv (z5 h).2.1
 refine fV (z5 h).2.1 ?_ ?_
 ·rw [hl,zN]
  have:((n.toNat * (zN t).toNat:Nat):Int)=n.toNat * (zN t).toNat:=by exact Int.natCast_mul _ _
  rw [this,Int.toNat_of_nonneg n0,Int.toNat_of_nonneg p0]
 ·intro x hx
  obtain ⟨r,hr,hx⟩:=List.mem_flatten.1 hx
  exact Sr h (by omega) (by omega) hs r hr x hx
theorem Jt {op n:Int} {t d S D:List Int} (ho:1 ≤ op∧op ≤ 10) (h:ym (n :: t) d=true) (hn:1 ≤ n) (hs:u7 op (n :: t) d=(S,D,0)):
  S=n :: t∧ym (n :: t) D=true∧D.take (zN t).toNat=d.take (zN t).toNat∧xy op (n :: t) d=(t,(D.drop ((n.toNat - 1) * (zN t).toNat)).take (zN t).toNat,0)∧
  ((D.drop ((n.toNat - 1) * (zN t).toNat)).take (zN t).toNat).length=(zN t).toNat∧∀ z ∈ (D.drop ((n.toNat - 1) * (zN t).toNat)).take (zN t).toNat,zO z:=by
 unfold u7 at hs
 rw [if_pos ⟨ho,h⟩] at hs
 simp only [MR] at hs
 cases hl:vg op (n :: t) d n.toNat 1 with
 | error c=>
   rw [hl] at hs
   simp only [eN,Prod.mk.injEq] at hs
   exfalso
   obtain ⟨m,hm⟩:∃ m,n.toNat=m:=⟨_,rfl⟩
   have key:∀ (m:Nat) (k:Int) (c:Int),1 ≤ k→vg op (n :: t) d m k= .error c→¬ c=0:=by
    intro m
    induction m with
    | zero=>intro k c hk h; cases h
    | succ m ih=>
      intro k c hk h
      rw [vg] at h
      cases h1:vv op (n :: t) d k with
      | error e=>rw [h1] at h; simp only [Except.error.injEq] at h; subst h; exact Ux hk h1
      | ok p=>
        rw [h1] at h
        simp only at h
        cases h2:vg op (n :: t) d m (k+1) with
        | error e=>rw [h2] at h; simp only [Except.error.injEq] at h; subst h; exact ih _ _ (by omega) h2
        | ok l'=>rw [h2] at h; cases h
   exact key _ _ _ (by omega) hl hs.2.2
 | ok l=>
   rw [hl] at hs
   simp only [eN,List.nil_append,Prod.mk.injEq,and_true] at hs
   obtain ⟨rfl,rfl⟩:=hs
   have ha:=Mg h hn hl
   obtain ⟨m,hm⟩:∃ m:Nat,n.toNat=m+1:=⟨n.toNat - 1,by omega⟩
   have hlen:=ZF h (by omega) (by omega) hl
   rw [hm] at hl hlen
   obtain ⟨l0,p,e1,hp⟩:=YC hl
   obtain ⟨l1,q,e2,hq⟩:=Wb hl
   have hq':vv op (n :: t) d n= .ok q:=by rw [← hq]; congr 1; omega
   have hqa:=Zy h ⟨hn,by omega⟩ hq'
   rw [cA] at hp
   cases hp
   have hfirst:(d.take (zN t).toNat).length=(zN t).toNat:=by
    have:=(Zy h ⟨by omega,hn⟩ (cA (op:=op))).2.1
    exact this
   have hfl:l1.flatten.length=m * (zN t).toNat:=by
    have h1:=hlen.2
    rw [e2,List.flatten_append,List.length_append] at h1
    simp only [List.flatten_cons,List.flatten_nil,List.append_nil,hqa.2.1,Nat.add_mul,Nat.one_mul] at h1
    omega
   have hD:l.flatten=l1.flatten++q.2:=by rw [e2]; simp
   have hdrop:(l.flatten.drop ((n.toNat - 1) * (zN t).toNat)).take (zN t).toNat=q.2:=by
    rw [hD,hm,Nat.add_sub_cancel,← hfl,List.drop_left,List.take_of_length_le (by omega)]
   refine ⟨rfl,ha,?_,?_,?_,?_⟩
   ·rw [e1,List.flatten_cons]
    simp only
    rw [List.take_append_of_le_length (by omega),List.take_take,Nat.min_self]
   ·rw [hdrop]
    unfold xy
    rw [if_pos ⟨ho,h⟩,List.headD_cons,hq']
    simp only [tri,hqa.1]
   ·rw [hdrop]; exact hqa.2.1
   ·rw [hdrop]; exact hqa.2.2
theorem Q7 {s d:List Int} (h:ym s d=true):ym [(d.length:Int)] d=true:=by
 have h1:=yA h
 refine fV ((uJ _).2 ⟨by simp,?_,?_⟩) (by simp [zN]) (z5 h).1
 ·simp only [List.all_cons,List.all_nil,Bool.and_true,s6,Bool.and_eq_true,decide_eq_true_eq]; omega
 ·simp only [zN,Int.mul_one]; omega
theorem WH {v:List Int} {i:Nat} (h:i < v.length):yS v 1 i=[v.getD i 0]:=by
 unfold yS
 rw [Nat.mul_one]
 have e:v.drop i=v[i] :: v.drop (i+1):=List.drop_eq_getElem_cons h
 rw [e,List.take_succ_cons,List.take_zero,List.getD_eq_getElem?_getD,List.getElem?_eq_getElem h]; rfl
theorem SG (f:Int) (v:List Int):∀ (i:Nat) (acc:Int),i ≤ v.length→su f v 1 i [acc]=match cD f v i acc with
  | .ok z=> .ok [z]
  | .error c=> .error c
 | 0,acc,h=>rfl
 | i+1,acc,h=>by
   simp only [su,cD]
   rw [WH (by omega)]
   simp only [xn]
   cases two f (v.getD i 0) acc with
   | error c=>rfl
   | ok z=>exact SG f v i z (by omega)
theorem IC {b:List Int}:col b 1 b.length 0=b:=by
 unfold col
 refine List.ext_getElem? fun i=>?_
 simp only [List.getElem?_map,Nat.mul_one,Nat.add_zero]
 by_cases hi:i < b.length
 ·rw [List.getElem?_range hi,List.getElem?_eq_getElem hi]
  simp [List.getD_eq_getElem?_getD,List.getElem?_eq_getElem hi]
 ·rw [List.getElem?_eq_none (by simp; omega),List.getElem?_eq_none (by omega)]; rfl
theorem Mf {op g:Int} {a b:List Int} (ho:1 ≤ op∧op ≤ 10) (hg:1 ≤ g∧g ≤ 10) (ha:ym [(a.length:Int)] a=true) (hb:ym [(b.length:Int)] b=true) (hl:a.length=b.length) (h0:1 ≤ a.length):
  (∃ c,¬ c=0∧oQ g [(a.length:Int)] a [(b.length:Int)] b=([],[],c)∧nh op g [(a.length:Int)] a [(b.length:Int)] b=([],[],c)) ∨
  (∃ v,oQ g [(a.length:Int)] a [(b.length:Int)] b=([(a.length:Int)],v,0)∧zG v∧nh op g [(a.length:Int)] a [(b.length:Int)] b=xy op [(a.length:Int)] v):=by
 have e1:oQ g [(a.length:Int)] a [(b.length:Int)] b=tri (yO [(a.length:Int)] [] (xn g a b)):=by
  unfold oQ eM
  rw [if_pos ⟨hg,ha,hb⟩,if_neg (by simp),if_neg (by simp),if_pos (by simp),if_pos (by rw [hl])]
 have hta:yS a a.length 0=a:=by unfold yS; simp
 have htb:col b 1 a.length 0=b:=by rw [hl]; exact IC
 have e2:nh op g [(a.length:Int)] a [(b.length:Int)] b=tri (yO [] [] (match nD op g a b a.length 1 0 0 with
   | .ok z=> .ok [z]
   | .error c=> .error c)):=by
  unfold nh OJ
  rw [if_pos ⟨⟨ho,hg⟩,ha,hb⟩,if_neg (by simp),if_pos (by simp [hl]),if_pos (show xi (([(a.length:Int)].dropLast)++[(b.length:Int)].tail)=true from (show xi []=true by decide))]
  have:([(b.length:Int)].headD 0).toNat=a.length:=by simp [hl]
  rw [this]
  show tri (yO [] [] (rp (nD op g a b a.length 1) 1 1 0))=_
  simp only [rp,sZ]
  cases nD op g a b a.length 1 0 0 <;> rfl
 have hi:nD op g a b a.length 1 0 0=match xn g a b with
   | .error c=> .error c
   | .ok v=>cD op v (a.length - 1) (v.getD (a.length - 1) 0):=by
  unfold nD
  rw [hta,htb]
  cases xn g a b with
  | error c=>rfl
  | ok v=>simp only; rw [if_neg (by omega)]
 rw [e1,e2,hi]
 cases ht:xn g a b with
 | error c=>
   exact .inl ⟨c,b6 ht,rfl,rfl⟩
 | ok v=>
   have hv:v.length=a.length:=dT ht hl
   have hc:=bx (z5 ha).1 (z5 hb).1 ht
   have hav:ym [(a.length:Int)] v=true:=fV (z5 ha).2.1 (by simp [zN,hv]) hc
   refine .inr ⟨v,rfl,(yA hav).2.1,?_⟩
   unfold xy
   rw [if_pos ⟨ho,hav⟩,List.headD_cons,pQ (by omega)]
   rw [show ((a.length:Int) - 1).toNat=a.length - 1 by omega,show (zN []).toNat=1 from rfl,WH (by omega),SG _ _ _ _ (by omega)]
theorem sm1 (x:Int):zG [x]:=by unfold zG; simp
theorem sm0:zG ([]:List Int):=by unfold zG; simp
theorem UP (L1:List Int→Option (List Int×List Int×List Int×List Int)) (h1:∀ c,kb c→L1 c=some (rQ c))
  (L2:Int→List Int→List Int→Option (List Int×List Int×Int)) (h2:∀ op s d,pA op s d→L2 op s d=some (xy op s d))
  (L3:Int→List Int→List Int→Option (List Int×List Int×Int)) (h3:∀ op s d,ip op s d→L3 op s d=some (u7 op s d))
  (L4:Int→List Int→List Int→Option (List Int×List Int×Int)) (h4:∀ op s d,hM op s d→L4 op s d=some (sI op s d))
  (L5:Int→List Int→List Int→Option (List Int×List Int×Int)) (h5:∀ op s d,f8 op s d→L5 op s d=some (jW op s d))
  (L6:Int→List Int→List Int→List Int→List Int→Option (List Int×List Int×Int)) (h6:∀ f s d s' d',f9 f s d s' d'→L6 f s d s' d'=some (lx f s d s' d'))
  (L7:List Int→List Int→List Int→List Int→Option Bool) (h7:∀ s d s' d',kM s d s' d'→L7 s d s' d'=some (wW s d s' d'))
  (L8:List Int→List Int→Option (List Int×List Int×Int)) (h8:∀ s d,gN s d→L8 s d=some (oA s d))
  (L9:Int→Int→List Int→List Int→List Int→List Int→Option (List Int×List Int×Int)) (h9:∀ f g s d s' d',fe f g s d s' d'→L9 f g s d s' d'=some (l8 f g s d s' d'))
  (L10:Int→List Int→List Int→List Int→List Int→Option (List Int×List Int×Int)) (h10:∀ f s d s' d',gW f s d s' d'→L10 f s d s' d'=some (kJ f s d s' d'))
  (c:List Int) (h:pR c):∃ N,lc L1 L2 L3 L4 L5 L6 L7 L8 L9 L10 N c=some (eg c):=by
 refine ⟨0,?_⟩
 unfold lc eg
 by_cases cl:1048576 < (c.length:Int)
 ·rw [if_pos cl]
 ·rw [if_neg cl]
  have ho:tl c:=⟨by omega,h.2⟩
  rw [h1 _ ho]
  simp only [Option.bind_some,rQ]
  obtain ⟨hf,ha,hb⟩:=TT ho
  generalize j1 c=s at hf ha hb ⊢
  generalize Kf c=a at ha ⊢
  generalize JS c=b at hb ⊢
  have t1:=tmx (k:=(c.length:Int)) 10 (by omega) (by omega)
  have d0:0 ≤ (c.length:Int).tdiv 10:=Int.tdiv_nonneg (by omega) (by omega)
  have d1:(c.length:Int).tdiv 10 ≤ c.length:=Int.tdiv_le_self _ (by omega)
  have t2:=tmx (k:=(c.length:Int).tdiv 10) 10 d0 (by omega)
  rw [zY (n:=(c.length:Int).tdiv 10) (by omega)]
  have hop:1 ≤ w64 (1+(c.length:Int).tmod 10)∧w64 (1+(c.length:Int).tmod 10) ≤ 10:=by rw [zY (by omega)]; omega
  have hg:1 ≤ w64 (1+((c.length:Int).tdiv 10).tmod 10)∧w64 (1+((c.length:Int).tdiv 10).tmod 10) ≤ 10:=by rw [zY (by omega)]; omega
  generalize w64 (1+(c.length:Int).tmod 10)=op at hop ⊢
  generalize w64 (1+((c.length:Int).tdiv 10).tmod 10)=g at hg ⊢
  obtain ⟨ss,sa,_,_,la⟩:=yA ha
  obtain ⟨_,sb,_,_,lb⟩:=yA hb
  have hab:a.length=b.length:=by omega
  have tail:((L8 s a).bind fun y12=>(L8 s b).bind fun y13=>
    if y12.snd.snd=0 then (if y13.snd.snd=0 then (if (↑(List.length y12.snd.fst):Int)=(↑(List.length a):Int) then (if (↑(List.length y12.snd.fst):Int)=0 then some true
     else ((L9 op g y12.fst y12.snd.fst y13.fst y13.snd.fst).bind fun y14=>
      (L10 g y12.fst y12.snd.fst y13.fst y13.snd.fst).bind fun y15=>
      if y15.snd.snd=0 then ((L4 op y15.fst y15.snd.fst).bind fun y16=>
       if y14.snd.snd=y16.snd.snd then ((L7 y14.fst y14.snd.fst y16.fst y16.snd.fst).bind fun y17=>some y17) else some false)
      else some (Decidable.decide (y14.snd.snd=y15.snd.snd))))
     else some false) else some false) else some false)=some true:=by
   rw [h8 _ _ ⟨ss,sa⟩,h8 _ _ ⟨ss,sb⟩]
   have e1:oA s a=([(a.length:Int)],a,0):=if_pos ha
   have e2:oA s b=([(b.length:Int)],b,0):=if_pos hb
   simp only [Option.bind_some,e1,e2,if_true]
   by_cases c0:(a.length:Int)=0
   ·rw [if_pos c0]
   ·rw [if_neg c0,h9 _ _ _ _ _ _ ⟨sm1 _,sa,sm1 _,sb⟩,h10 _ _ _ _ _ ⟨sm1 _,sa,sm1 _,sb⟩]
    simp only [Option.bind_some,l8,kJ]
    rcases Mf hop hg (Q7 ha) (Q7 hb) hab (by omega) with ⟨q,hq,e3,e4⟩ | ⟨v,e3,hv,e4⟩
    ·rw [e3,e4]
     simp only
     rw [if_neg hq]; simp
    ·rw [e3,e4]
     simp only [if_true]
     rw [h4 _ _ _ ⟨sm1 _,hv⟩]
     simp only [Option.bind_some,sI,if_true]
     have hsm:=Su (op:=op) (s:=[(a.length:Int)]) (d:=v) ⟨sm1 _,hv⟩
     rw [h7 _ _ _ _ ⟨hsm.1,hsm.2⟩]
     simp [wW]
  rw [h2 _ _ _ ⟨ss,sa⟩,h3 _ _ _ ⟨ss,sa⟩,h4 _ _ _ ⟨ss,sa⟩,h5 _ _ _ ⟨ss,sa⟩]
  simp only [Option.bind_some,sI,jW,if_true]
  by_cases c1:¬ (u7 op s a).2.2=0
  ·rw [if_neg c1]; exact tail
  replace c1:=Classical.not_not.1 c1
  rw [if_pos c1]
  by_cases c2:¬ (xy op s a).2.2=0
  ·rw [if_neg c2]; exact tail
  replace c2:=Classical.not_not.1 c2
  rw [if_pos c2]
  cases s with
  | nil=>
    rw [if_neg (by simp)]; exact tail
  | cons n t=>
    rw [if_pos (by simp only [List.length_cons]; omega),show idx (n :: t) 0=some n from rfl]
    simp only [Option.bind_some]
    by_cases hn:¬ 0 < n
    ·rw [if_neg hn]; exact tail
    replace hn:=Classical.not_not.1 hn
    rw [if_pos hn]
    generalize hs:u7 op (n :: t) a=R at c1 ⊢
    obtain ⟨S,D,e⟩:=R
    simp only at c1
    subst c1
    obtain ⟨rfl,hD,hfirst,hred,hlen,hcel⟩:=Jt hop ha (by omega) hs
    have hone:=Fw hD (by omega) hlen hcel
    have hlast:=M6 hD (by omega)
    rw [hred]
    generalize (D.drop ((n.toNat - 1) * (zN t).toNat)).take (zN t).toNat=e at hlen hcel hone hlast ⊢
    have sD:=(yA hD).2.1
    have se:=yA hone
    have st:zG t:=by
     have:=ss
     unfold zG at this ⊢
     simp only [List.length_cons] at this; omega
    simp only
    rw [h6 _ _ _ _ _ ⟨sm0,sm1 _,ss,sD⟩]
    simp only [Option.bind_some,lx,hlast]
    rw [h4 _ _ _ ⟨se.1,se.2.1⟩]
    simp only [Option.bind_some,sI]
    rw [PN (n:=1) hone hlen,h6 _ _ _ _ _ ⟨sm0,sm1 _,ss,sD⟩,h6 _ _ _ _ _ ⟨sm0,sm1 _,ss,sa⟩]
    simp only [Option.bind_some,lx,if_true]
    rw [h7 _ _ _ _ ⟨st,se.2.1⟩]
    have hsame:wW t e t e=true:=by simp [wW]
    simp only [Option.bind_some,hsame,Bool.true_eq_false,if_false]
    rw [X9 hD (by omega),X9 ha (by omega)]
    simp only [if_true]
    have sT:zG (D.take (zN t).toNat):=by
     unfold zG at sD ⊢
     rw [List.length_take]; omega
    rw [h7 _ _ _ _ ⟨by unfold zG at st ⊢; simpa using by unfold zG at ss; simpa using ss,sT⟩]
    have hsame2:wW (1 :: t) (D.take (zN t).toNat) (1 :: t) (a.take (zN t).toNat)=true:=by simp [wW,hfirst]
    simp only [Option.bind_some,hsame2,Bool.true_eq_false,if_false]
    exact tail
theorem Ze {c:List Int} (h:c.length ≤ maxLen∧∀ x ∈ c,(Lit.int .u8 x).wf=true):pR c:=⟨h.1,fun x hx=>by
 have:=h.2 x hx
 simp only [Lit.wf,Bool.and_eq_true,decide_eq_true_eq] at this
 rw [show IntKind.min .u8=0 by decide,show IntKind.max .u8=255 by decide] at this
 exact this⟩
theorem zP {β:Type} {p:Prop} {x:β} (h:¬ p):yh p x=none:=if_neg h
end Go.Vm
