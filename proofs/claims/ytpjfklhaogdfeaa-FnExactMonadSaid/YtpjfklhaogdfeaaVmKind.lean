/- The rules for lists of one kind, bundled. -/
import Derived.Test.YtpjfklhaogdfeaaVmRul
set_option linter.unusedVariables false
set_option linter.unusedSectionVars false
set_option linter.unusedSimpArgs false
set_option linter.defProp false
namespace Go.Vm
def tg:=q9
@[congr] theorem Ff {E:En} {keep:List Nat} {b:Cd} {k:List KJ} {m:Nat} {st st':St} (h:st=st'):gH E keep b k m st=gH E keep b k m st':=by rw [h]
theorem zk (c c':Cd) (h:c=c') {E:En} {k:List KJ} {st:St}:G E c k st=G E c' k st:=by rw [h]
@[congr] theorem FF {E:En} {c c':Cd} {k:List KJ} {st:St} (h:c=c'):G E c k st=G E c' k st:=by rw [h]
section
variable {α:Type} (c:Enc α) (n:Nat) (h:n=c.sz)
theorem NQ (l:List α) (m:Nat):n=c.sz→bi (zm c l) (m * n) n=(l[m]?).bind fun x=>some (c.enc x):=by
 intro h
 rw [O9 c l m n h]; cases l[m]? <;> rfl
def m9 (cells:List D) (o:Nat) (xs:List D):List D:=cells.take o++xs++cells.drop (o+xs.length)
theorem V3 (e:Nat) (cap:Option Nat) (l:List α) (m o:Nat) (xs:List D) (y y':α) (hy:l[m]? =some y) (ho:o+xs.length ≤ c.sz) (hd:c.dec (m9 (c.enc y) o xs)=some y'):
  q9 (e,c.sz,l.length,cap,zm c l) (m * c.sz+o) xs=some (zW c e cap (l.set m y')):=by
 have hm:m < l.length:=by
  apply Classical.byContradiction
  intro hn
  rw [List.getElem?_eq_none (by omega)] at hy; cases hy
 have hmul:=Nat.mul_le_mul_right c.sz (show m+1 ≤ l.length from hm)
 rw [Nat.succ_mul] at hmul
 have e':=c.dcd _ _ hd
 have e1:zm c l=zm c (l.take m)++(c.enc y++zm c (l.drop (m+1))):=by
  have h1:=m8 c hy
  rw [← h1,oB,← nJ,List.take_append_drop]
 have e2:zm c (l.set m y')=zm c (l.take m)++(c.enc y'++zm c (l.drop (m+1))):=by
  rw [List.set_eq_take_append_cons_drop,if_pos hm,nJ]
  simp [zm]
 have e3:(zm c (l.take m)).length=m * c.sz:=by rw [xw,List.length_take,Nat.min_eq_left (by omega)]
 unfold q9
 simp only
 rw [if_pos (by rw [xw]; omega)]
 simp only [zW,List.length_set,e2,← e',m9]
 congr 1
 congr 1
 have d1:(zm c (l.take m)).drop (m * c.sz+o+xs.length)=[]:=List.drop_eq_nil_of_le (by omega)
 have t1:(zm c (l.take m)).take (m * c.sz+o)=zm c (l.take m):=List.take_of_length_le (by omega)
 rw [e1,List.take_append,List.drop_append,e3,t1,d1]
 have a1:m * c.sz+o - m * c.sz=o:=by omega
 have a2:m * c.sz+o+xs.length - m * c.sz=o+xs.length:=by omega
 rw [a1,a2,List.take_append_of_le_length (by rw [c.len]; omega),List.drop_append_of_le_length (by rw [c.len]; omega)]
 simp only [List.nil_append,List.append_assoc]
theorem Ho (e:Nat) (cap:Option Nat) (l:List α) (m o:Nat) (xs:List D):n=c.sz→q9 (e,c.sz,l.length,cap,zm c l) (m * n+o) xs=
  if o+xs.length ≤ n then (match l[m]? with
   | some y=>(c.dec (m9 (c.enc y) o xs)).elim (tg (e,c.sz,l.length,cap,zm c l) (m * n+o) xs) fun y'=>some (zW c e cap (l.set m y'))
   | none=>tg (e,c.sz,l.length,cap,zm c l) (m * n+o) xs) else tg (e,c.sz,l.length,cap,zm c l) (m * n+o) xs:=by
 intro h
 subst h
 split
 ·rename_i ho
  cases hy:l[m]? with
  | none=>rfl
  | some y=>
    simp only
    cases hd:c.dec (m9 (c.enc y) o xs) with
    | none=>rfl
    | some y'=>exact V3 c e cap l m o xs y y' hy ho hd
 ·rfl
theorem V1 {R:Nat×Nat×Nat×Option Nat×List D} {e:Nat} {cap:Option Nat} {m o:Nat} {xs:List D} {l:List α} (h:l.length ≤ m) (hx:0 < xs.length):tg (e,c.sz,l.length,cap,zm c l) (m * c.sz+o) xs=none:=by
 unfold tg q9
 simp only
 rw [if_neg]
 rw [xw]
 have:=Nat.mul_le_mul_right c.sz h
 omega
theorem SN (e:Nat) (cap:Option Nat) (l:List α) (m o:Nat) (xs:List D):n=c.sz→q9 (e,c.sz,l.length,cap,zm c l) (m * n+o) xs=
  if o+xs.length ≤ n∧0 < xs.length then (l[m]?).bind fun y=>(c.dec (m9 (c.enc y) o xs)).elim (tg (e,c.sz,l.length,cap,zm c l) (m * n+o) xs) fun y'=>some (zW c e cap (l.set m y'))
  else tg (e,c.sz,l.length,cap,zm c l) (m * n+o) xs:=by
 intro h
 split
 ·rename_i ho
  rw [Ho c n e cap l m o xs h,if_pos ho.1]
  subst h
  cases hy:l[m]? with
  | none=>exact V1 c (R:=(e,c.sz,l.length,cap,zm c l)) (List.getElem?_eq_none_iff.mp hy) ho.2
  | some y=>rfl
 ·rfl
theorem Gj (e:Nat) (cap:Option Nat) (l:List α) (m:Nat) (xs:List D):n=c.sz→q9 (e,c.sz,l.length,cap,zm c l) (m * n) xs=
  (c.dec xs).elim (if 0+xs.length ≤ n∧0 < xs.length then (l[m]?).bind fun y=>(c.dec (m9 (c.enc y) 0 xs)).elim (tg (e,c.sz,l.length,cap,zm c l) (m * n+0) xs) fun y'=>some (zW c e cap (l.set m y'))
    else tg (e,c.sz,l.length,cap,zm c l) (m * n+0) xs) fun x=>(uM l m x).bind fun l'=>some (zW c e cap l'):=by
 intro h
 cases hd:c.dec xs with
 | none=>
   exact SN c n e cap l m 0 xs h
 | some x=>
   subst h
   rw [Wu c e cap l m c.sz xs x rfl hd]
   simp only [Option.elim]
   cases uM l m x <;> rfl
theorem IQ (e:Nat) (cap:Option Nat) (l l':List α) (b:Nat):n=c.sz→
  kT (e,c.sz,l.length,cap,zm c l) e n b (zf c l')=if v7 b (l++l').length then some (zW c e none (l++l')) else none:=by
 rintro rfl; exact Kt c e cap l l' c.sz b rfl
theorem LH (e:Nat) (cap:Option Nat) (l:List α) (k k':IntKind) (lo hi:Int):n=c.sz→lB (e,c.sz,l.length,cap,zm c l) n true true [.d (.int k lo),.d (.int k' hi)]=(cut l lo hi).bind fun l'=>some (zf c l'):=by
 rintro rfl; exact JA c e c.sz cap l k k' lo hi rfl
theorem Lu (e:Nat) (cap:Option Nat) (l:List α) (k:IntKind) (lo:Int):n=c.sz→lB (e,c.sz,l.length,cap,zm c l) n true false [.d (.int k lo)]=(cut l lo l.length).bind fun l'=>some (zf c l'):=by
 rintro rfl; exact LC c e c.sz cap l k lo rfl
theorem Kn (e:Nat) (cap:Option Nat) (l:List α) (k:IntKind) (hi:Int):n=c.sz→lB (e,c.sz,l.length,cap,zm c l) n false true [.d (.int k hi)]=(cut l 0 hi).bind fun l'=>some (zf c l'):=by
 rintro rfl; exact JK c e c.sz cap l k hi rfl
theorem xP (e:Nat) (cap:Option Nat) (l:List α) (m o:Nat) (xs:List D) (z:Nat) (hz:l.length=z) (h:n=c.sz):q9 (e,c.sz,z,cap,zm c l) (m * n+o) xs=
  if o+xs.length ≤ n∧0 < xs.length then (l[m]?).bind fun y=>(c.dec (m9 (c.enc y) o xs)).elim (tg (e,c.sz,l.length,cap,zm c l) (m * n+o) xs) fun y'=>some (zW c e cap (l.set m y'))
  else tg (e,c.sz,l.length,cap,zm c l) (m * n+o) xs:=hz ▸ SN c n e cap l m o xs h
theorem IX (e:Nat) (cap:Option Nat) (l:List α) (m:Nat) (xs:List D) (z:Nat) (hz:l.length=z) (h:n=c.sz):q9 (e,c.sz,z,cap,zm c l) (m * n) xs=
  (c.dec xs).elim (if 0+xs.length ≤ n∧0 < xs.length then (l[m]?).bind fun y=>(c.dec (m9 (c.enc y) 0 xs)).elim (tg (e,c.sz,l.length,cap,zm c l) (m * n+0) xs) fun y'=>some (zW c e cap (l.set m y'))
    else tg (e,c.sz,l.length,cap,zm c l) (m * n+0) xs) fun x=>(uM l m x).bind fun l'=>some (zW c e cap l'):=hz ▸ Gj c n e cap l m xs h
theorem LP (e:Nat) (cap:Option Nat) (l l':List α) (b:Nat) (z:Nat) (hz:l.length=z) (h:n=c.sz):
  kT (e,c.sz,z,cap,zm c l) e n b (zf c l')=if v7 b (l++l').length then some (zW c e none (l++l')) else none:=hz ▸ IQ c n e cap l l' b h
theorem J8 (r:Nat×Nat×Nat×Option Nat×List D) (e b:Nat) (l:List α):kT r e n b (j8 c l)=kT r e n b (zf c l):=rfl
theorem Is (e:Nat) (cap:Option Nat) (l:List α) (h':Int) (z:Nat) (hz:l.length=z) (h:n=c.sz):
  Xg (e,c.sz,z,cap,zm c l) n h'=if 0 ≤ h'∧h' ≤ l.length then some (zW c e cap (l.take h'.toNat)) else none:=by
 subst hz h; exact KN c e cap l c.sz rfl h'
theorem MS (e:Nat) (cap:Option Nat) (l:List α) (k k':IntKind) (lo hi:Int) (z:Nat) (hz:l.length=z) (h:n=c.sz):lB (e,c.sz,z,cap,zm c l) n true true [.d (.int k lo),.d (.int k' hi)]=(cut l lo hi).bind fun l'=>some (zf c l'):=hz ▸ LH c n e cap l k k' lo hi h
theorem ML (e:Nat) (cap:Option Nat) (l:List α) (k:IntKind) (lo:Int) (z:Nat) (hz:l.length=z) (h:n=c.sz):lB (e,c.sz,z,cap,zm c l) n true false [.d (.int k lo)]=(cut l lo l.length).bind fun l'=>some (zf c l'):=hz ▸ Lu c n e cap l k lo h
theorem MY (e:Nat) (cap:Option Nat) (l:List α) (k:IntKind) (hi:Int) (z:Nat) (hz:l.length=z) (h:n=c.sz):lB (e,c.sz,z,cap,zm c l) n false true [.d (.int k hi)]=(cut l 0 hi).bind fun l'=>some (zf c l'):=hz ▸ Kn c n e cap l k hi h
theorem vU (l:List α) (m o:Nat) (ho:o < c.sz):n=c.sz→(zm c l)[m * n+o]? =(l[m]?).bind fun x=>(c.enc x)[o]? :=by
 rintro rfl; exact Vs c l m o ho
theorem NJ (l:List α):n=c.sz→(zm c l)[0]? =(l[0]?).bind fun x=>(c.enc x)[0]? :=by
 rintro rfl
 have:=Vs c l 0 0 c.pos
 simpa using this
theorem Ts (l:List α) (m:Nat):n=c.sz→(zm c l)[m * n]? =(l[m]?).bind fun x=>(c.enc x)[0]? :=by
 rintro rfl; exact Vs c l m 0 c.pos
end
def oS {α:Type} (c:Enc α) (n:Nat) (h:n=c.sz):=
 And.intro (fun {Γ ob d} l k i=>Hh (Γ:=Γ) (ob:=ob) (d:=d) c l n k i h) <|
 And.intro (fun {Γ ob d} l=>JP (Γ:=Γ) (ob:=ob) (d:=d) c l) <|
 And.intro (fun {Γ ob d} l k k' lo hi=>MK (Γ:=Γ) (ob:=ob) (d:=d) c l n k k' lo hi h) <|
 And.intro (fun {Γ ob d} l k lo=>Na (Γ:=Γ) (ob:=ob) (d:=d) c l n k lo h) <|
 And.intro (fun {Γ ob d} l k hi=>OY (Γ:=Γ) (ob:=ob) (d:=d) c l n k hi h) <|
 And.intro (II c) <| And.intro (Mg c) <| And.intro (GZ c) <| And.intro (GM c) <| And.intro (Mh c) <| And.intro (NP c) <| And.intro (fun {ob} v e cap l=>Rw (ob:=ob) c v e cap l) <| And.intro (fun v e e' cap l lk=>QL c v e e' n cap l lk h) <| And.intro (IJ c) <| And.intro (fun {ob d} e cap lk l j=>Hp (ob:=ob) (d:=d) c e cap lk l j) <|
 And.intro (fun {ob} m e cap l=>LV (ob:=ob) c m e cap l) <| And.intro (fun {ob} m e cap l=>M6 (ob:=ob) c m e cap l) <|
 And.intro (fun l m=>NQ c n l m h) <| And.intro (fun e cap l m xs z hz=>IX c n e cap l m xs z hz h) <| And.intro (fun e cap l l' b z hz=>LP c n e cap l l' b z hz h) <| And.intro (fun r e b l=>J8 c n r e b l) <| And.intro (fun l=>NJ c n l h) <| And.intro (Ka c) <| And.intro (KS c) <| And.intro (fun e cap l h' z hz=>Is c n e cap l h' z hz h) <|
 And.intro (fun e cap l k k' lo hi z hz=>MS c n e cap l k k' lo hi z hz h) <| And.intro (fun e cap l k lo z hz=>ML c n e cap l k lo z hz h) <| And.intro (fun e cap l k hi z hz=>MY c n e cap l k hi z hz h) (fun l m=>Ts c n l m h)
def lO {α:Type} (c:Enc α) (s:Nat):Nat→List D→Option (List α)
 | 0,[]=>some []
 | 0,_ :: _=>none
 | n+1,xs=>(c.dec (xs.take s)).bind fun x=>(lO c s n (xs.drop s)).bind fun l=>some (x :: l)
theorem bG {α:Type} (c:Enc α) (s:Nat) (hs:s=c.sz):∀ (n:Nat) (xs:List D) (l:List α),lO c s n xs=some l→xs=zm c l∧n=l.length
 | 0,[],l,h=>by cases h; exact ⟨rfl,rfl⟩
 | 0,_ :: _,l,h=>by cases h
 | n+1,xs,l,h=>by
   simp only [lO] at h
   obtain ⟨x,h1,h⟩:=Option.bind_eq_some_iff.mp h
   obtain ⟨l',h2,h⟩:=Option.bind_eq_some_iff.mp h
   cases h
   obtain ⟨e1,e2⟩:=bG c s hs n _ _ h2
   have e3:=c.dcd _ _ h1
   refine ⟨?_,by simp [e2]⟩
   rw [← List.take_append_drop s xs,e3,e1]
   simp [zm]
theorem Tw {α:Type} (c:Enc α):∀ (l:List α),lO c c.sz l.length (zm c l)=some l
 | []=>rfl
 | x :: l=>by
   have h:zm c (x :: l)=c.enc x++zm c l:=by simp [zm]
   have h1:(c.enc x++zm c l).take c.sz=c.enc x:=by rw [List.take_append_of_le_length (by rw [c.len]; exact Nat.le_refl _),List.take_of_length_le (by rw [c.len]; exact Nat.le_refl _)]
   have h2:(c.enc x++zm c l).drop c.sz=zm c l:=by rw [List.drop_append,List.drop_eq_nil_of_le (by rw [c.len]; exact Nat.le_refl _),c.len]; simp
   rw [h,List.length_cons]
   simp only [lO,h1,h2,c.edc,Tw c l,Option.bind_some]
def lJ {α:Type} (c:Enc α):D→Option (List α)
 | .lst n cs=>lO c c.sz n cs
 | _=>none
theorem lm {α:Type} {c:Enc α} {d:D} {l:List α} (h:lJ c d=some l):d=zf c l:=by
 unfold lJ at h
 split at h
 ·obtain ⟨e1,e2⟩:=bG c c.sz rfl _ _ _ h
  rw [e1,e2]; rfl
 ·cases h
theorem nH {α:Type} (c:Enc α) (l:List α):lJ c (zf c l)=some l:=Tw c l
def ON {α:Type} (c:Enc α):List D→Option (List α)
 | [d]=>lJ c d
 | _=>none
def cL {α:Type} (c:Enc α):Enc (List α) where
 sz:=1
 enc l:=[zf c l]
 dec:=ON c
 len _:=rfl
 pos:=by decide
 dcd:=by
  intro xs x h
  unfold ON at h
  split at h
  ·rw [lm h]
  ·cases h
 edc l:=nH c l
theorem JW {α:Type} (c:Enc α) (l:List α):(cL c).enc l=[zf c l]:=rfl
theorem LD {α:Type} (c:Enc α) (l:List α):(cL c).dec [zf c l]=some l:=nH c l
theorem Ky {α:Type} (c:Enc α) (s:Nat):lO c s 0 []=some []:=rfl
theorem JU {α:Type} (c:Enc α) (s n:Nat) (xs:List D):lO c s (n+1) xs=(c.dec (xs.take s)).bind fun x=>(lO c s n (xs.drop s)).bind fun l=>some (x :: l):=rfl
theorem Hu {α:Type} (c:Enc α) (e s:Nat) (hs:s=c.sz) (n:Nat) (xs:List D):dS e s n xs=(lO c s n xs).elim (O.row e s n (some n) xs) fun l=>zW c e (some n) l:=by
 cases h:lO c s n xs with
 | none=>rfl
 | some l=>
   obtain ⟨e1,e2⟩:=bG c s hs n xs l h
   subst hs
   simp only [dS,Option.elim,zW,e1,e2]
theorem Jc {α:Type} (c:Enc α) (e s:Nat) (hs:s=c.sz) (zs:List D) (z:α) (hz:c.dec zs=some z) (n cap:Nat):WQ e s n cap zs=zW c e (some cap) (List.replicate n z):=by
 subst hs
 exact WM c e (some cap) n zs z hz
theorem RY {α:Type} (c:Enc α) (e s:Nat) (hs:s=c.sz):X.own e s 0 none [] false=zj c e none false []:=by subst hs; rfl
theorem Mx {α:Type} (c:Enc α) (e s:Nat) (hs:s=c.sz) (zs:List D) (z:α) (hz:c.dec zs=some z) (n:Nat):Xp e s n zs=zW c e none (List.replicate n z):=by
 subst hs
 exact WM c e none n zs z hz
def zOk (b:Nat) (k:Int):Prop:=0 ≤ k∧k.toNat * b ≤ uQ∧k ≤ 9223372036854775807
instance (b:Nat) (k:Int):Decidable (zOk b k):=by unfold zOk; infer_instance
theorem Il {α:Type} (c:Enc α) (e s:Nat) (hs:s=c.sz) (zs:List D) (x:α) (hx:c.dec zs=some x) (id ver b:Nat) (k:Int):
  PB id ver e s b zs k=if zOk b k then (if k=0 then some (.val .nil []) else some (.val (.row id ver) [(id,⟨ver,zW c e none (List.replicate k.toNat x),false⟩)])) else none:=by
 unfold PB
 rw [Mx c e s hs zs x hx]
 subst hs
 obtain rfl:=c.dcd _ _ hx
 by_cases h:zOk b k
 ·have h':=h
  unfold zOk at h'
  rw [if_pos h,if_pos ⟨h'.1,c.len _,c.pos,h'.2.1,h'.2.2⟩]
 ·rw [if_neg h,if_neg (fun q=>h ⟨q.1,q.2.2.2.1,q.2.2.2.2⟩)]
theorem Kz {α:Type} (c:Enc α) (e s:Nat) (hs:s=c.sz) (zs:List D) (x:α) (hx:c.dec zs=some x) (cap:Option Nat) (l:List α) (b:Nat) (k:Int) (z:Nat) (hz:l.length=z):
  dN (e,c.sz,z,cap,zm c l) e s b zs k=if 0 ≤ k∧v7 b (l++List.replicate k.toNat x).length then some (zW c e none (l++List.replicate k.toNat x)) else none:=by
 subst hz hs; exact O7 c e cap l c.sz b rfl zs x hx k
theorem Hr {α:Type} (c:Enc α) (e s:Nat) (hs:s=c.sz) (zs:List D) (x:α) (hx:c.dec zs=some x) (cap:Option Nat) (l:List α) (lo:Nat) (z:Nat) (hz:l.length=z):
  Z5 (e,c.sz,z,cap,zm c l) zs lo s=if lo ≤ l.length then some (zW c e cap (l.take lo++List.replicate (l.length - lo) x)) else none:=IG c e cap l zs x hx lo s hs z hz
def mM {α:Type} (c:Enc α) (e s:Nat) (hs:s=c.sz) (zs:List D) (z:α) (hz:c.dec zs=some z):=And.intro (RY c e s hs) <| And.intro (Hu c e s hs) <| And.intro (Jc c e s hs zs z hz) <| And.intro (Il c e s hs zs z hz) <| And.intro (Hr c e s hs zs z hz) (Kz c e s hs zs z hz)
theorem FM {α β:Type} (a:Int) (X Y N:Option β) (L:Option α) (p:α→Prop) [∀ y,Decidable (p y)] (W V:α→Option β):
  (if a < 1 then X else if 10 < a then Y else L.bind fun y=>if p y then if a.toNat * 1=0 then W y else V y else N)
    =if a < 1 then X else if 10 < a then Y else L.bind fun y=>if p y then V y else N:=by
 by_cases h:a < 1
 ·rw [if_pos h,if_pos h]
 ·have h':¬ a.toNat * 1=0:=by omega
  simp only [h',if_false]
theorem Vn (n:Nat):(n:Int).toNat=n:=Int.toNat_natCast n
theorem nm {α:Type} (c:Enc α) (h:∀ x,(c.enc x).all D.flat=true) (fl:TypeId→Bool) (e:Nat) (cap:Option Nat) (lk:Bool) (l:List α):yT fl (zj c e cap lk l)=fl e:=by
 have:(zm c l).all D.flat=true:=by
  unfold zm
  rw [List.all_flatMap]
  simp [h]
 simp only [zj,yT,this,Bool.and_true]
theorem KW (x:Int):cI.enc x=[.int .i64 x]:=rfl
theorem KX (x:Int):cI.dec [.int .i64 x]=some x:=rfl
theorem KI (x:Int):c8.enc x=[.int .u8 x]:=rfl
theorem LX (x:Int):c8.dec [.int .u8 x]=some x:=rfl
theorem JY (x:Bool):cB.enc x=[.bool x]:=rfl
theorem IC (x:Bool):cB.dec [.bool x]=some x:=rfl
theorem LA (x:List UInt8):cS.enc x=[sD x]:=rfl
theorem LZ (x:List UInt8):cS.dec [sD x]=some x:=rfl
theorem Og (cells:List D) (o:Nat) (xs:List D):m9 cells o xs=cells.take o++xs++cells.drop (o+xs.length):=rfl
theorem Tn {α β:Type} (b:β) (f:α→β):(none:Option α).elim b f=b:=rfl
theorem UT {α β:Type} (b:β) (f:α→β) (x:α):(some x).elim b f=f x:=rfl
theorem Py {α:Type} (a:α) (l r:List α):(a :: l)++r=a :: (l++r):=rfl
theorem N6 {α:Type} (r:List α):[]++r=r:=rfl
theorem VJ {α β:Type} (x:α) (f:α→Option β):(some x).bind f=f x:=rfl
theorem UQ {α β:Type} (f:α→Option β):(none:Option α).bind f=none:=rfl
theorem Tm {α β γ:Type} (x:Option α) (f:α→Option β) (g:β→Option γ):(x.bind f).bind g=x.bind fun y=>(f y).bind g:=Option.bind_assoc ..
theorem wZ {α:Type} (c:Enc α) (k K:Nat) (h:K=k * c.sz) (l:List α):(zm c l)[K]? =(l[k]?).bind fun x=>(c.enc x)[0]? :=by
 subst h; exact Ts c c.sz l k rfl
theorem Jf {α:Type} (c:Enc α) (e:Nat) (cap:Option Nat) (l:List α) (xs:List D) (z:Nat) (hz:l.length=z):q9 (e,c.sz,z,cap,zm c l) 0 xs=
  (c.dec xs).elim (tg (e,c.sz,z,cap,zm c l) 0 xs) fun x=>(uM l 0 x).bind fun l'=>some (zW c e cap l'):=by
 cases hd:c.dec xs with
 | none=>rfl
 | some x=>
   subst hz
   have:=Wu c e cap l 0 c.sz xs x rfl hd
   rw [Nat.zero_mul] at this
   rw [this]
   simp only [Option.elim]
   cases uM l 0 x <;> rfl
theorem NO {α:Type} (a:α) (l:List α) (x:α):uM (a :: l) 0 x=some (x :: l):=by simp [uM]
def ZP {α:Type} (c:Enc α) (h:c.sz=1):=And.intro (Jf c) <| And.intro (@NO α) <| And.intro (wZ c 1 1 (by rw [h])) <| And.intro (wZ c 2 2 (by rw [h])) <| And.intro (wZ c 3 3 (by rw [h])) <| And.intro (wZ c 4 4 (by rw [h])) (wZ c 5 5 (by rw [h]))
def ym:=And.intro (ZP cI rfl) <| And.intro (ZP cS rfl) <| And.intro (ZP cB rfl) (ZP c8 rfl)
def rI:=And.intro (nm cI (fun _=>rfl)) <| And.intro (oS cI 1 rfl) (And.intro KW KX)
def r8:=And.intro (nm c8 (fun _=>rfl)) <| And.intro (oS c8 1 rfl) (And.intro KI LX)
def rB:=And.intro (nm cB (fun _=>rfl)) <| And.intro (oS cB 1 rfl) (And.intro JY IC)
theorem fW {α:Type} (c:Enc α) (fl:TypeId→Bool) (e:Nat) (cap:Option Nat) (lk:Bool) (l:List α):yT fl (zj c e cap lk l)=(fl e&&(zm c l).all D.flat):=by simp only [zj,yT]
def rLI:=And.intro (fW (cL cI)) <| And.intro (oS (cL cI) 1 rfl) (And.intro (JW cI) (LD cI))
def rS:=And.intro (nm cS (fun _=>rfl)) <| And.intro (oS cS 1 rfl) (And.intro LA LZ)
inductive Res (α:Type) where
 | ok (a:α)
 | pan (x:D)
def Res.on {α β:Type} (r:Res α) (f:α→Option β) (g:D→Option β):Option β:=match r with
 | .ok a=>f a
 | .pan x=>g x
inductive Alt (α β:Type) where
 | a (x:α)
 | b (y:β)
def Alt.on {α β γ:Type} (r:Alt α β) (f:α→Option γ) (g:β→Option γ):Option γ:=match r with
 | .a x=>f x
 | .b y=>g y
theorem IZ {α β γ:Type} (x:α) (f:α→Option γ) (g:β→Option γ):(Alt.a x:Alt α β).on f g=f x:=rfl
theorem HU {α β γ:Type} (y:β) (f:α→Option γ) (g:β→Option γ):(Alt.b y:Alt α β).on f g=g y:=rfl
theorem Oc {α β γ δ:Type} (r:Alt α β) (f:α→Option γ) (g:β→Option γ) (h:γ→Option δ):(r.on f g).bind h=r.on (fun a=>(f a).bind h) (fun x=>(g x).bind h):=by cases r <;> rfl
theorem JI {α β:Type} (fl:TypeId→Bool) (ob:Nat→Ob) (d:Nat) (ls ms:List Nat) (r:Alt α β) (f:α→Option XOut) (g:β→Option XOut):dR fl ob d ls ms (r.on f g)=r.on (fun a=>dR fl ob d ls ms (f a)) (fun x=>dR fl ob d ls ms (g x)):=by cases r <;> rfl
theorem QH {α β:Type} {E:En} {k:List KJ} {st:St} (d:Option Nat) (r:Alt α β) (f:α→Option Out) (g:β→Option Out) (l:List SOper):vS E d (r.on f g) l k st=r.on (fun a=>vS E d (f a) l k st) (fun x=>vS E d (g x) l k st):=by cases r <;> rfl
theorem TO {α β:Type} {E:En} {k:List KJ} {st:St} (v:List Nat) (d:Option Nat) (op:SOp) (r:Alt α β) (f:α→Option Out) (g:β→Option Out) (l:List SOper):
  yO E v d op (r.on f g) l k st=r.on (fun a=>yO E v d op (f a) l k st) (fun x=>yO E v d op (g x) l k st):=by cases r <;> rfl
theorem SY {α β:Type} {E:En} {k:List KJ} {st:St} (v fb:List Nat) (fl:Bool) (wt:List Nat) (d:Option Nat) (op:SOp) (r:Alt α β) (f:α→Option Out) (g:β→Option Out) (l:List SOper):
  wu E v fb fl wt d op (r.on f g) l k st=r.on (fun a=>wu E v fb fl wt d op (f a) l k st) (fun x=>wu E v fb fl wt d op (g x) l k st):=by cases r <;> rfl
theorem HN {α β:Type} (a:α) (f:α→Option β) (g:D→Option β):(Res.ok a).on f g=f a:=rfl
theorem SC {α β:Type} (x:D) (f:α→Option β) (g:D→Option β):(Res.pan x:Res α).on f g=g x:=rfl
theorem Mw {α β γ:Type} (r:Res α) (f:α→Option β) (g:D→Option β) (h:β→Option γ):(r.on f g).bind h=r.on (fun a=>(f a).bind h) (fun x=>(g x).bind h):=by cases r <;> rfl
theorem IT {α:Type} (fl:TypeId→Bool) (ob:Nat→Ob) (d:Nat) (ls ms:List Nat) (r:Res α) (f:α→Option XOut) (g:D→Option XOut):dR fl ob d ls ms (r.on f g)=r.on (fun a=>dR fl ob d ls ms (f a)) (fun x=>dR fl ob d ls ms (g x)):=by cases r <;> rfl
theorem Ma {α:Type} {E:En} {k:List KJ} {st:St} (d:Option Nat) (r:Res α) (f:α→Option Out) (g:D→Option Out) (l:List SOper):vS E d (r.on f g) l k st=r.on (fun a=>vS E d (f a) l k st) (fun x=>vS E d (g x) l k st):=by cases r <;> rfl
theorem PO {α:Type} {E:En} {k:List KJ} {st:St} (v fb:List Nat) (fl:Bool) (wt:List Nat) (d:Option Nat) (op:SOp) (r:Res α) (f:α→Option Out) (g:D→Option Out) (l:List SOper):
  wu E v fb fl wt d op (r.on f g) l k st=r.on (fun a=>wu E v fb fl wt d op (f a) l k st) (fun x=>wu E v fb fl wt d op (g x) l k st):=by cases r <;> rfl
theorem Pp {α:Type} {E:En} {k:List KJ} {st:St} (v:List Nat) (d:Option Nat) (op:SOp) (r:Res α) (f:α→Option Out) (g:D→Option Out) (l:List SOper):
  yO E v d op (r.on f g) l k st=r.on (fun a=>yO E v d op (f a) l k st) (fun x=>yO E v d op (g x) l k st):=by cases r <;> rfl
mutual
def ncX:X→X
 | .own e s n _ cells lk=> .own e s n none cells lk
 | .box xs=> .box (uT xs)
 | .agg xs=> .agg (uT xs)
 | .tup xs=> .tup (uT xs)
 | .d x=> .d x
 | .nil=> .nil
 | .par k=> .par k
 | .res k x=> .res k x
def uT:List X→List X
 | []=>[]
 | x :: xs=>ncX x :: uT xs
end
def nocap:XOut→XOut
 | .ret x outs=> .ret (ncX x) outs
 | .pan x outs=> .pan x outs
theorem JM {α:Type} (c:Enc α) (e:Nat) (cap:Option Nat) (lk:Bool) (l:List α):ncX (zj c e cap lk l)=zj c e none lk l:=by simp only [zj,ncX]
theorem Gm (x:D):ncX (.d x)= .d x:=by simp only [ncX]
theorem Jt:ncX .nil= .nil:=by simp only [ncX]
theorem Kp (k:Nat):ncX (.par k)= .par k:=by simp only [ncX]
theorem LT (k:RK) (x:D):ncX (.res k x)= .res k x:=by simp only [ncX]
theorem Jh (xs:List X):ncX (.box xs)= .box (uT xs):=by simp only [ncX]
theorem KG (xs:List X):ncX (.agg xs)= .agg (uT xs):=by simp only [ncX]
theorem LK (xs:List X):ncX (.tup xs)= .tup (uT xs):=by simp only [ncX]
theorem Nw:uT []=[]:=by simp only [uT]
theorem QF (x:X) (xs:List X):uT (x :: xs)=ncX x :: uT xs:=by simp only [uT]
theorem U2 (x:X) (outs:List (List D)):nocap (.ret x outs)= .ret (ncX x) outs:=rfl
theorem Rv (x:D) (outs:List (List D)):nocap (.pan x outs)= .pan x outs:=rfl
inductive Md where
 | k
 | own (e s:Nat)
 | node (l:List Md)
 | dat
mutual
def yj:Md→X→X
 | .own e s,.nil=> .own e s 0 none [] false
 | .dat,.nil=> .d (.lst 0 [])
 | .node ms,.agg xs=> .agg (vM ms xs)
 | .node ms,.tup xs=> .tup (vM ms xs)
 | _,x=>x
def vM:List Md→List X→List X
 | m :: ms,x :: xs=>yj m x :: vM ms xs
 | _,xs=>xs
end
def wK (m:Md):XOut→XOut
 | .ret x outs=> .ret (yj m x) outs
 | .pan x outs=> .pan x outs
theorem LE (e s:Nat):yj (.own e s) .nil= .own e s 0 none [] false:=by simp only [yj]
theorem K7 (m:Md) (k:Nat):yj m (.par k)= .par k:=by cases m <;> simp only [yj]
theorem Kv (m:Md) (k:RK) (x:D):yj m (.res k x)= .res k x:=by cases m <;> simp only [yj]
theorem Fz:yj .dat .nil= .d (.lst 0 []):=by simp only [yj]
theorem Gf (x:X):yj .k x=x:=by simp only [yj]
theorem Ie {α:Type} (c:Enc α) (m:Md) (e:Nat) (cap:Option Nat) (lk:Bool) (l:List α):yj m (zj c e cap lk l)=zj c e cap lk l:=by
 cases m <;> simp only [zj,yj]
theorem Fl (m:Md) (x:D):yj m (.d x)= .d x:=by cases m <;> simp only [yj]
theorem Ic (ms:List Md) (xs:List X):yj (.node ms) (.agg xs)= .agg (vM ms xs):=by simp only [yj]
theorem LW (ms:List Md) (xs:List X):yj (.node ms) (.tup xs)= .tup (vM ms xs):=by simp only [yj]
theorem NW (ms:List Md):vM ms []=[]:=by cases ms <;> simp only [vM]
theorem RL (xs:List X):vM [] xs=xs:=by simp only [vM]
theorem Px (m:Md) (ms:List Md) (x:X) (xs:List X):vM (m :: ms) (x :: xs)=yj m x :: vM ms xs:=by simp only [vM]
theorem SV (m:Md) (x:X) (outs:List (List D)):wK m (.ret x outs)= .ret (yj m x) outs:=rfl
theorem U1 (m:Md) (x:D) (outs:List (List D)):wK m (.pan x outs)= .pan x outs:=rfl
def mk1:List D→List D
 | [x]=>[x,.bool true]
 | ds=>ds
def pB:List Bool→List (List D)→List (List D)
 | true :: bs,ds :: outs=>mk1 ds :: pB bs outs
 | false :: bs,ds :: outs=>ds :: pB bs outs
 | _,outs=>outs
def Ue (bs:List Bool):XOut→XOut
 | .ret x outs=> .ret x (pB bs outs)
 | .pan x outs=> .pan x outs
theorem Rt (bs:List Bool) (x:X) (outs:List (List D)):Ue bs (.ret x outs)= .ret x (pB bs outs):=rfl
theorem U4 (bs:List Bool) (x:D) (outs:List (List D)):Ue bs (.pan x outs)= .pan x outs:=rfl
theorem Oe (bs:List Bool) (ds:List D) (outs:List (List D)):pB (true :: bs) (ds :: outs)=mk1 ds :: pB bs outs:=rfl
theorem Ox (bs:List Bool) (ds:List D) (outs:List (List D)):pB (false :: bs) (ds :: outs)=ds :: pB bs outs:=rfl
theorem YE (outs:List (List D)):pB [] outs=outs:=by cases outs <;> rfl
theorem I7 (x:D):mk1 [x]=[x,.bool true]:=rfl
theorem HC (x y:D):mk1 [x,y]=[x,y]:=rfl
def w64 (n:Int):Int:=IntKind.i64.wrap n
theorem K2 (n:Int):IntKind.i64.wrap n=w64 n:=rfl
def yp:=And.intro Rt <| And.intro U4 <| And.intro Oe <| And.intro Ox <| And.intro YE <| And.intro I7 <| And.intro HC <| And.intro LE <| And.intro Gf <| And.intro @Ie <| And.intro Fl <| And.intro Ic <| And.intro LW <| And.intro NW <| And.intro RL <| And.intro Px <| And.intro SV <| And.intro U1 <| And.intro @JM <| And.intro Gm <| And.intro Jt <| And.intro Kp <| And.intro LT <| And.intro Kv <| And.intro K7 <| And.intro Jh <| And.intro KG <| And.intro LK <| And.intro Nw <| And.intro QF <| And.intro U2 <| And.intro Rv <| And.intro @Ky <| And.intro @JU <| And.intro Vn <| And.intro @K2 <| And.intro @IZ <| And.intro @HU <| And.intro @Oc <| And.intro @JI <| And.intro @QH <| And.intro @TO <| And.intro @SY <| And.intro @HN <| And.intro @SC <| And.intro @Mw <| And.intro @IT <| And.intro @Ma <| And.intro @Pp <| And.intro @PO <| And.intro Og <| And.intro @Tn <| And.intro @UT (And.intro @Py (And.intro @N6 (And.intro @VJ (And.intro @UQ @Tm))))
def yu:=And.intro @Option.some_beq_some.{0} <| And.intro @Nat.zero_add <| And.intro @Nat.add_zero <| And.intro @Bool.not_true <| And.intro @Bool.not_false <| And.intro @Bool.and_true <| And.intro @Bool.true_and <| And.intro @Bool.and_false <| And.intro @Bool.false_and <| And.intro @Bool.and_self <| And.intro @Bool.or_false <| And.intro @Bool.false_or <| And.intro @Bool.or_true <| And.intro @Bool.true_or <| And.intro @Bool.or_self <| And.intro @decide_eq_true_eq <| And.intro @Bool.not_eq_true' <| And.intro @Bool.not_eq_eq_eq_not <| And.intro @decide_eq_false_iff_not <| And.intro @ite_not.{1} <| And.intro @ite_self.{1} <| And.intro @List.nil_append.{0} <| And.intro @List.append_nil.{0} <| And.intro @Option.map_some.{0,0} <| And.intro @Option.map_none.{0,0} <| And.intro @List.length_replicate.{0} <| And.intro @Int.natCast_nonneg <| And.intro @and_self <| And.intro @and_true <| And.intro @true_and <| And.intro @Bool.false_eq_true <| And.intro @decide_true <| And.intro @decide_false <| And.intro @List.cons_append.{0} <| And.intro @Int.cast_ofNat_Int <| And.intro @not_true_eq_false <| And.intro @not_false_eq_true <| @eq_self.{1}
structure Hy (E:En) (ps pl:List Nat) (ck:List (Nat×KO)) (rs:List RV) (dd:Option (List Nat×List Nat)) (wk:XOut→XOut) (fl:Nat→Bool):Prop where
 p:E.ps=ps
 l:E.pl=pl
 k:E.ck=ck
 r:E.rs=rs
 d:E.dd=dd
 w:∀ y,E.wk y=some (wk y)
 f:∀ e,E.Γ.fl e=fl e
end Go.Vm
