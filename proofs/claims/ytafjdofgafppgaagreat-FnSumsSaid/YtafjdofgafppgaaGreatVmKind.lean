/- The rules for lists of one kind, bundled. -/
import Derived.Test.YtafjdofgafppgaaGreatVmRul
set_option linter.unusedVariables false
set_option linter.unusedSectionVars false
set_option linter.unusedSimpArgs false
set_option linter.defProp false
namespace Go.Vm
def ov:=jw
@[congr] theorem Am {E:En} {keep:List Nat} {b:Cd} {k:List KJ} {m:Nat} {st st':St} (h:st=st'):gH E keep b k m st=gH E keep b k m st':=by rw [h]
theorem zj (c c':Cd) (h:c=c') {E:En} {k:List KJ} {st:St}:G E c k st=G E c' k st:=by rw [h]
@[congr] theorem zaC {E:En} {c c':Cd} {k:List KJ} {st:St} (h:c=c'):G E c k st=G E c' k st:=by rw [h]
section
variable {α:Type} (c:Enc α) (n:Nat) (h:n=c.sz)
theorem Hg (l:List α) (m:Nat):n=c.sz→Wc (zE c l) (m * n) n=(l[m]?).bind fun x=>some (c.enc x):=by
 intro h
 rw [H2 c l m n h]; cases l[m]? <;> rfl
def ez (cells:List D) (o:Nat) (xs:List D):List D:=cells.take o++xs++cells.drop (o+xs.length)
theorem OP (e:Nat) (cap:Option Nat) (l:List α) (m o:Nat) (xs:List D) (y y':α) (hy:l[m]? =some y) (ho:o+xs.length ≤ c.sz) (hd:c.dec (ez (c.enc y) o xs)=some y'):
  jw (e,c.sz,l.length,cap,zE c l) (m * c.sz+o) xs=some (yg c e cap (l.set m y')):=by
 have hm:m < l.length:=by
  apply Classical.byContradiction
  intro hn
  rw [List.getElem?_eq_none (by omega)] at hy; cases hy
 have hmul:=Nat.mul_le_mul_right c.sz (show m+1 ≤ l.length from hm)
 rw [Nat.succ_mul] at hmul
 have e':=c.dcd _ _ hd
 have e1:zE c l=zE c (l.take m)++(c.enc y++zE c (l.drop (m+1))):=by
  have h1:=eK c hy
  rw [← h1,jZ,← gv,List.take_append_drop]
 have e2:zE c (l.set m y')=zE c (l.take m)++(c.enc y'++zE c (l.drop (m+1))):=by
  rw [List.set_eq_take_append_cons_drop,if_pos hm,gv]
  simp [zE]
 have e3:(zE c (l.take m)).length=m * c.sz:=by rw [wQ,List.length_take,Nat.min_eq_left (by omega)]
 unfold jw
 simp only
 rw [if_pos (by rw [wQ]; omega)]
 simp only [yg,List.length_set,e2,← e',ez]
 congr 1
 congr 1
 have d1:(zE c (l.take m)).drop (m * c.sz+o+xs.length)=[]:=List.drop_eq_nil_of_le (by omega)
 have t1:(zE c (l.take m)).take (m * c.sz+o)=zE c (l.take m):=List.take_of_length_le (by omega)
 rw [e1,List.take_append,List.drop_append,e3,t1,d1]
 have a1:m * c.sz+o - m * c.sz=o:=by omega
 have a2:m * c.sz+o+xs.length - m * c.sz=o+xs.length:=by omega
 rw [a1,a2,List.take_append_of_le_length (by rw [c.len]; omega),List.drop_append_of_le_length (by rw [c.len]; omega)]
 simp only [List.nil_append,List.append_assoc]
theorem BQ (e:Nat) (cap:Option Nat) (l:List α) (m o:Nat) (xs:List D):n=c.sz→jw (e,c.sz,l.length,cap,zE c l) (m * n+o) xs=
  if o+xs.length ≤ n then (match l[m]? with
   | some y=>(c.dec (ez (c.enc y) o xs)).elim (ov (e,c.sz,l.length,cap,zE c l) (m * n+o) xs) fun y'=>some (yg c e cap (l.set m y'))
   | none=>ov (e,c.sz,l.length,cap,zE c l) (m * n+o) xs) else ov (e,c.sz,l.length,cap,zE c l) (m * n+o) xs:=by
 intro h
 subst h
 split
 ·rename_i ho
  cases hy:l[m]? with
  | none=>rfl
  | some y=>
    simp only
    cases hd:c.dec (ez (c.enc y) o xs) with
    | none=>rfl
    | some y'=>exact OP c e cap l m o xs y y' hy ho hd
 ·rfl
theorem O3 {R:Nat×Nat×Nat×Option Nat×List D} {e:Nat} {cap:Option Nat} {m o:Nat} {xs:List D} {l:List α} (h:l.length ≤ m) (hx:0 < xs.length):ov (e,c.sz,l.length,cap,zE c l) (m * c.sz+o) xs=none:=by
 unfold ov jw
 simp only
 rw [if_neg]
 rw [wQ]
 have:=Nat.mul_le_mul_right c.sz h
 omega
theorem NF (e:Nat) (cap:Option Nat) (l:List α) (m o:Nat) (xs:List D):n=c.sz→jw (e,c.sz,l.length,cap,zE c l) (m * n+o) xs=
  if o+xs.length ≤ n∧0 < xs.length then (l[m]?).bind fun y=>(c.dec (ez (c.enc y) o xs)).elim (ov (e,c.sz,l.length,cap,zE c l) (m * n+o) xs) fun y'=>some (yg c e cap (l.set m y'))
  else ov (e,c.sz,l.length,cap,zE c l) (m * n+o) xs:=by
 intro h
 split
 ·rename_i ho
  rw [BQ c n e cap l m o xs h,if_pos ho.1]
  subst h
  cases hy:l[m]? with
  | none=>exact O3 c (R:=(e,c.sz,l.length,cap,zE c l)) (List.getElem?_eq_none_iff.mp hy) ho.2
  | some y=>rfl
 ·rfl
theorem Ah (e:Nat) (cap:Option Nat) (l:List α) (m:Nat) (xs:List D):n=c.sz→jw (e,c.sz,l.length,cap,zE c l) (m * n) xs=
  (c.dec xs).elim (if 0+xs.length ≤ n∧0 < xs.length then (l[m]?).bind fun y=>(c.dec (ez (c.enc y) 0 xs)).elim (ov (e,c.sz,l.length,cap,zE c l) (m * n+0) xs) fun y'=>some (yg c e cap (l.set m y'))
    else ov (e,c.sz,l.length,cap,zE c l) (m * n+0) xs) fun x=>(dM l m x).bind fun l'=>some (yg c e cap l'):=by
 intro h
 cases hd:c.dec xs with
 | none=>
   exact NF c n e cap l m 0 xs h
 | some x=>
   subst h
   rw [I8 c e cap l m c.sz xs x rfl hd]
   simp only [Option.elim]
   cases dM l m x <;> rfl
theorem BP (e:Nat) (cap:Option Nat) (l l':List α) (b:Nat):n=c.sz→
  cE (e,c.sz,l.length,cap,zE c l) e n b (zf c l')=if yu b (l++l').length then some (yg c e none (l++l')) else none:=by
 rintro rfl; exact CI c e cap l l' c.sz b rfl
theorem Cf (e:Nat) (cap:Option Nat) (l:List α) (k k':IntKind) (lo hi:Int):n=c.sz→dJ (e,c.sz,l.length,cap,zE c l) n true true [.d (.int k lo),.d (.int k' hi)]=(cut l lo hi).bind fun l'=>some (zf c l'):=by
 rintro rfl; exact EX c e c.sz cap l k k' lo hi rfl
theorem CP (e:Nat) (cap:Option Nat) (l:List α) (k:IntKind) (lo:Int):n=c.sz→dJ (e,c.sz,l.length,cap,zE c l) n true false [.d (.int k lo)]=(cut l lo l.length).bind fun l'=>some (zf c l'):=by
 rintro rfl; exact DO c e c.sz cap l k lo rfl
theorem Dl (e:Nat) (cap:Option Nat) (l:List α) (k:IntKind) (hi:Int):n=c.sz→dJ (e,c.sz,l.length,cap,zE c l) n false true [.d (.int k hi)]=(cut l 0 hi).bind fun l'=>some (zf c l'):=by
 rintro rfl; exact CB c e c.sz cap l k hi rfl
theorem Fx (e:Nat) (cap:Option Nat) (l:List α) (m o:Nat) (xs:List D) (z:Nat) (hz:l.length=z) (h:n=c.sz):jw (e,c.sz,z,cap,zE c l) (m * n+o) xs=
  if o+xs.length ≤ n∧0 < xs.length then (l[m]?).bind fun y=>(c.dec (ez (c.enc y) o xs)).elim (ov (e,c.sz,l.length,cap,zE c l) (m * n+o) xs) fun y'=>some (yg c e cap (l.set m y'))
  else ov (e,c.sz,l.length,cap,zE c l) (m * n+o) xs:=hz ▸ NF c n e cap l m o xs h
theorem BR (e:Nat) (cap:Option Nat) (l:List α) (m:Nat) (xs:List D) (z:Nat) (hz:l.length=z) (h:n=c.sz):jw (e,c.sz,z,cap,zE c l) (m * n) xs=
  (c.dec xs).elim (if 0+xs.length ≤ n∧0 < xs.length then (l[m]?).bind fun y=>(c.dec (ez (c.enc y) 0 xs)).elim (ov (e,c.sz,l.length,cap,zE c l) (m * n+0) xs) fun y'=>some (yg c e cap (l.set m y'))
    else ov (e,c.sz,l.length,cap,zE c l) (m * n+0) xs) fun x=>(dM l m x).bind fun l'=>some (yg c e cap l'):=hz ▸ Ah c n e cap l m xs h
theorem EY (e:Nat) (cap:Option Nat) (l l':List α) (b:Nat) (z:Nat) (hz:l.length=z) (h:n=c.sz):
  cE (e,c.sz,z,cap,zE c l) e n b (zf c l')=if yu b (l++l').length then some (yg c e none (l++l')) else none:=hz ▸ BP c n e cap l l' b h
theorem CT (r:Nat×Nat×Nat×Option Nat×List D) (e b:Nat) (l:List α):cE r e n b (bZ c l)=cE r e n b (zf c l):=rfl
theorem DQ (e:Nat) (cap:Option Nat) (l:List α) (h':Int) (z:Nat) (hz:l.length=z) (h:n=c.sz):
  S9 (e,c.sz,z,cap,zE c l) n h'=if 0 ≤ h'∧h' ≤ l.length then some (yg c e cap (l.take h'.toNat)) else none:=by
 subst hz h; exact Et c e cap l c.sz rfl h'
theorem HE (e:Nat) (cap:Option Nat) (l:List α) (k k':IntKind) (lo hi:Int) (z:Nat) (hz:l.length=z) (h:n=c.sz):dJ (e,c.sz,z,cap,zE c l) n true true [.d (.int k lo),.d (.int k' hi)]=(cut l lo hi).bind fun l'=>some (zf c l'):=hz ▸ Cf c n e cap l k k' lo hi h
theorem Fh (e:Nat) (cap:Option Nat) (l:List α) (k:IntKind) (lo:Int) (z:Nat) (hz:l.length=z) (h:n=c.sz):dJ (e,c.sz,z,cap,zE c l) n true false [.d (.int k lo)]=(cut l lo l.length).bind fun l'=>some (zf c l'):=hz ▸ CP c n e cap l k lo h
theorem HO (e:Nat) (cap:Option Nat) (l:List α) (k:IntKind) (hi:Int) (z:Nat) (hz:l.length=z) (h:n=c.sz):dJ (e,c.sz,z,cap,zE c l) n false true [.d (.int k hi)]=(cut l 0 hi).bind fun l'=>some (zf c l'):=hz ▸ Dl c n e cap l k hi h
theorem BT (l:List α) (m o:Nat) (ho:o < c.sz):n=c.sz→(zE c l)[m * n+o]? =(l[m]?).bind fun x=>(c.enc x)[o]? :=by
 rintro rfl; exact Ou c l m o ho
theorem Fl (l:List α):n=c.sz→(zE c l)[0]? =(l[0]?).bind fun x=>(c.enc x)[0]? :=by
 rintro rfl
 have:=Ou c l 0 0 c.pos
 simpa using this
theorem NI (l:List α) (m:Nat):n=c.sz→(zE c l)[m * n]? =(l[m]?).bind fun x=>(c.enc x)[0]? :=by
 rintro rfl; exact Ou c l m 0 c.pos
end
def Yc {α:Type} (c:Enc α) (n:Nat) (h:n=c.sz):=
 And.intro (fun {Γ ob d} l k i=>BX (Γ:=Γ) (ob:=ob) (d:=d) c l n k i h) <|
 And.intro (fun {Γ ob d} l=>Ee (Γ:=Γ) (ob:=ob) (d:=d) c l) <|
 And.intro (fun {Γ ob d} l k k' lo hi=>GK (Γ:=Γ) (ob:=ob) (d:=d) c l n k k' lo hi h) <|
 And.intro (fun {Γ ob d} l k lo=>HZ (Γ:=Γ) (ob:=ob) (d:=d) c l n k lo h) <|
 And.intro (fun {Γ ob d} l k hi=>GZ (Γ:=Γ) (ob:=ob) (d:=d) c l n k hi h) <|
 And.intro (EQ c) <| And.intro (Fb c) <| And.intro (A8 c) <| And.intro (Al c) <| And.intro (Fo c) <| And.intro (Hp c) <| And.intro (fun {ob} v e cap l=>JE (ob:=ob) c v e cap l) <| And.intro (fun v e e' cap l lk=>ID c v e e' n cap l lk h) <| And.intro (CU c) <| And.intro (fun {ob d} e cap lk l j=>BS (ob:=ob) (d:=d) c e cap lk l j) <|
 And.intro (fun {ob} m e cap l=>CG (ob:=ob) c m e cap l) <| And.intro (fun {ob} m e cap l=>Hk (ob:=ob) c m e cap l) <|
 And.intro (fun l m=>Hg c n l m h) <| And.intro (fun e cap l m xs z hz=>BR c n e cap l m xs z hz h) <| And.intro (fun e cap l l' b z hz=>EY c n e cap l l' b z hz h) <| And.intro (fun r e b l=>CT c n r e b l) <| And.intro (fun l=>Fl c n l h) <| And.intro (Cn c) <| And.intro (Cp c) <| And.intro (fun e cap l h' z hz=>DQ c n e cap l h' z hz h) <|
 And.intro (fun e cap l k k' lo hi z hz=>HE c n e cap l k k' lo hi z hz h) <| And.intro (fun e cap l k lo z hz=>Fh c n e cap l k lo z hz h) <| And.intro (fun e cap l k hi z hz=>HO c n e cap l k hi z hz h) (fun l m=>NI c n l m h)
def dQ {α:Type} (c:Enc α) (s:Nat):Nat→List D→Option (List α)
 | 0,[]=>some []
 | 0,_ :: _=>none
 | n+1,xs=>(c.dec (xs.take s)).bind fun x=>(dQ c s n (xs.drop s)).bind fun l=>some (x :: l)
theorem V0 {α:Type} (c:Enc α) (s:Nat) (hs:s=c.sz):∀ (n:Nat) (xs:List D) (l:List α),dQ c s n xs=some l→xs=zE c l∧n=l.length
 | 0,[],l,h=>by cases h; exact ⟨rfl,rfl⟩
 | 0,_ :: _,l,h=>by cases h
 | n+1,xs,l,h=>by
   simp only [dQ] at h
   obtain ⟨x,h1,h⟩:=Option.bind_eq_some_iff.mp h
   obtain ⟨l',h2,h⟩:=Option.bind_eq_some_iff.mp h
   cases h
   obtain ⟨e1,e2⟩:=V0 c s hs n _ _ h2
   have e3:=c.dcd _ _ h1
   refine ⟨?_,by simp [e2]⟩
   rw [← List.take_append_drop s xs,e3,e1]
   simp [zE]
theorem Nr {α:Type} (c:Enc α):∀ (l:List α),dQ c c.sz l.length (zE c l)=some l
 | []=>rfl
 | x :: l=>by
   have h:zE c (x :: l)=c.enc x++zE c l:=by simp [zE]
   have h1:(c.enc x++zE c l).take c.sz=c.enc x:=by rw [List.take_append_of_le_length (by rw [c.len]; exact Nat.le_refl _),List.take_of_length_le (by rw [c.len]; exact Nat.le_refl _)]
   have h2:(c.enc x++zE c l).drop c.sz=zE c l:=by rw [List.drop_append,List.drop_eq_nil_of_le (by rw [c.len]; exact Nat.le_refl _),c.len]; simp
   rw [h,List.length_cons]
   simp only [dQ,h1,h2,c.edc,Nr c l,Option.bind_some]
def ZV {α:Type} (c:Enc α):D→Option (List α)
 | .lst n cs=>dQ c c.sz n cs
 | _=>none
theorem V1 {α:Type} {c:Enc α} {d:D} {l:List α} (h:ZV c d=some l):d=zf c l:=by
 unfold ZV at h
 split at h
 ·obtain ⟨e1,e2⟩:=V0 c c.sz rfl _ _ _ h
  rw [e1,e2]; rfl
 ·cases h
theorem dk {α:Type} (c:Enc α) (l:List α):ZV c (zf c l)=some l:=Nr c l
def IV {α:Type} (c:Enc α):List D→Option (List α)
 | [d]=>ZV c d
 | _=>none
def cL {α:Type} (c:Enc α):Enc (List α) where
 sz:=1
 enc l:=[zf c l]
 dec:=IV c
 len _:=rfl
 pos:=by decide
 dcd:=by
  intro xs x h
  unfold IV at h
  split at h
  ·rw [V1 h]
  ·cases h
 edc l:=dk c l
theorem Dv {α:Type} (c:Enc α) (l:List α):(cL c).enc l=[zf c l]:=rfl
theorem DJ {α:Type} (c:Enc α) (l:List α):(cL c).dec [zf c l]=some l:=dk c l
theorem CD {α:Type} (c:Enc α) (s:Nat):dQ c s 0 []=some []:=rfl
theorem Cl {α:Type} (c:Enc α) (s n:Nat) (xs:List D):dQ c s (n+1) xs=(c.dec (xs.take s)).bind fun x=>(dQ c s n (xs.drop s)).bind fun l=>some (x :: l):=rfl
theorem Bu {α:Type} (c:Enc α) (e s:Nat) (hs:s=c.sz) (n:Nat) (xs:List D):WZ e s n xs=(dQ c s n xs).elim (O.row e s n (some n) xs) fun l=>yg c e (some n) l:=by
 cases h:dQ c s n xs with
 | none=>rfl
 | some l=>
   obtain ⟨e1,e2⟩:=V0 c s hs n xs l h
   subst hs
   simp only [WZ,Option.elim,yg,e1,e2]
theorem DY {α:Type} (c:Enc α) (e s:Nat) (hs:s=c.sz) (zs:List D) (z:α) (hz:c.dec zs=some z) (n cap:Nat):Q8 e s n cap zs=yg c e (some cap) (List.replicate n z):=by
 subst hs
 exact Q1 c e (some cap) n zs z hz
theorem Ip {α:Type} (c:Enc α) (e s:Nat) (hs:s=c.sz):X.own e s 0 none [] false=zo c e none false []:=by subst hs; rfl
theorem HR {α:Type} (c:Enc α) (e s:Nat) (hs:s=c.sz) (zs:List D) (z:α) (hz:c.dec zs=some z) (n:Nat):Rx e s n zs=yg c e none (List.replicate n z):=by
 subst hs
 exact Q1 c e none n zs z hz
def zOk (b:Nat) (k:Int):Prop:=0 ≤ k∧k.toNat * b ≤ sm∧k ≤ 9223372036854775807
instance (b:Nat) (k:Int):Decidable (zOk b k):=by unfold zOk; infer_instance
theorem D6 {α:Type} (c:Enc α) (e s:Nat) (hs:s=c.sz) (zs:List D) (x:α) (hx:c.dec zs=some x) (id ver b:Nat) (k:Int):
  JK id ver e s b zs k=if zOk b k then (if k=0 then some (.val .nil []) else some (.val (.row id ver) [(id,⟨ver,yg c e none (List.replicate k.toNat x),false⟩)])) else none:=by
 unfold JK
 rw [HR c e s hs zs x hx]
 subst hs
 obtain rfl:=c.dcd _ _ hx
 by_cases h:zOk b k
 ·have h':=h
  unfold zOk at h'
  rw [if_pos h,if_pos ⟨h'.1,c.len _,c.pos,h'.2.1,h'.2.2⟩]
 ·rw [if_neg h,if_neg (fun q=>h ⟨q.1,q.2.2.2.1,q.2.2.2.2⟩)]
theorem F8 {α:Type} (c:Enc α) (e s:Nat) (hs:s=c.sz) (zs:List D) (x:α) (hx:c.dec zs=some x) (cap:Option Nat) (l:List α) (b:Nat) (k:Int) (z:Nat) (hz:l.length=z):
  XZ (e,c.sz,z,cap,zE c l) e s b zs k=if 0 ≤ k∧yu b (l++List.replicate k.toNat x).length then some (yg c e none (l++List.replicate k.toNat x)) else none:=by
 subst hz hs; exact Hd c e cap l c.sz b rfl zs x hx k
theorem Bc {α:Type} (c:Enc α) (e s:Nat) (hs:s=c.sz) (zs:List D) (x:α) (hx:c.dec zs=some x) (cap:Option Nat) (l:List α) (lo:Nat) (z:Nat) (hz:l.length=z):
  Rh (e,c.sz,z,cap,zE c l) zs lo s=if lo ≤ l.length then some (yg c e cap (l.take lo++List.replicate (l.length - lo) x)) else none:=Ea c e cap l zs x hx lo s hs z hz
def TZ {α:Type} (c:Enc α) (e s:Nat) (hs:s=c.sz) (zs:List D) (z:α) (hz:c.dec zs=some z):=And.intro (Ip c e s hs) <| And.intro (Bu c e s hs) <| And.intro (DY c e s hs zs z hz) <| And.intro (D6 c e s hs zs z hz) <| And.intro (Bc c e s hs zs z hz) (F8 c e s hs zs z hz)
theorem Dh {α β:Type} (a:Int) (X Y N:Option β) (L:Option α) (p:α→Prop) [∀ y,Decidable (p y)] (W V:α→Option β):
  (if a < 1 then X else if 10 < a then Y else L.bind fun y=>if p y then if a.toNat * 1=0 then W y else V y else N)
    =if a < 1 then X else if 10 < a then Y else L.bind fun y=>if p y then V y else N:=by
 by_cases h:a < 1
 ·rw [if_pos h,if_pos h]
 ·have h':¬ a.toNat * 1=0:=by omega
  simp only [h',if_false]
theorem PE (n:Nat):(n:Int).toNat=n:=Int.toNat_natCast n
theorem Z2 {α:Type} (c:Enc α) (h:∀ x,(c.enc x).all D.flat=true) (fl:TypeId→Bool) (e:Nat) (cap:Option Nat) (lk:Bool) (l:List α):xP fl (zo c e cap lk l)=fl e:=by
 have:(zE c l).all D.flat=true:=by
  unfold zE
  rw [List.all_flatMap]
  simp [h]
 simp only [zo,xP,this,Bool.and_true]
theorem Cq (x:Int):cI.enc x=[.int .i64 x]:=rfl
theorem Dy (x:Int):cI.dec [.int .i64 x]=some x:=rfl
theorem EW (x:Int):c8.enc x=[.int .u8 x]:=rfl
theorem F3 (x:Int):c8.dec [.int .u8 x]=some x:=rfl
theorem Dp (x:Bool):cB.enc x=[.bool x]:=rfl
theorem DG (x:Bool):cB.dec [.bool x]=some x:=rfl
theorem Dm (x:List UInt8):cS.enc x=[sD x]:=rfl
theorem Cw (x:List UInt8):cS.dec [sD x]=some x:=rfl
theorem Lx (cells:List D) (o:Nat) (xs:List D):ez cells o xs=cells.take o++xs++cells.drop (o+xs.length):=rfl
theorem NE {α β:Type} (b:β) (f:α→β):(none:Option α).elim b f=b:=rfl
theorem MT {α β:Type} (b:β) (f:α→β) (x:α):(some x).elim b f=f x:=rfl
theorem J0 {α:Type} (a:α) (l r:List α):(a :: l)++r=a :: (l++r):=rfl
theorem Hh {α:Type} (r:List α):[]++r=r:=rfl
theorem ww {α β:Type} (x:α) (f:α→Option β):(some x).bind f=f x:=rfl
theorem Oz {α β:Type} (f:α→Option β):(none:Option α).bind f=none:=rfl
theorem N1 {α β γ:Type} (x:Option α) (f:α→Option β) (g:β→Option γ):(x.bind f).bind g=x.bind fun y=>(f y).bind g:=Option.bind_assoc ..
theorem dS {α:Type} (c:Enc α) (k K:Nat) (h:K=k * c.sz) (l:List α):(zE c l)[K]? =(l[k]?).bind fun x=>(c.enc x)[0]? :=by
 subst h; exact NI c c.sz l k rfl
def TA {α:Type} (c:Enc α) (h:c.sz=1):=And.intro (dS c 1 1 (by rw [h])) <| And.intro (dS c 2 2 (by rw [h])) <| And.intro (dS c 3 3 (by rw [h])) <| And.intro (dS c 4 4 (by rw [h])) (dS c 5 5 (by rw [h]))
def yb:=And.intro (TA cI rfl) <| And.intro (TA cS rfl) <| And.intro (TA cB rfl) (TA c8 rfl)
def rI:=And.intro (Z2 cI (fun _=>rfl)) <| And.intro (Yc cI 1 rfl) (And.intro Cq Dy)
def r8:=And.intro (Z2 c8 (fun _=>rfl)) <| And.intro (Yc c8 1 rfl) (And.intro EW F3)
def rB:=And.intro (Z2 cB (fun _=>rfl)) <| And.intro (Yc cB 1 rfl) (And.intro Dp DG)
theorem Q2 {α:Type} (c:Enc α) (fl:TypeId→Bool) (e:Nat) (cap:Option Nat) (lk:Bool) (l:List α):xP fl (zo c e cap lk l)=(fl e&&(zE c l).all D.flat):=by simp only [zo,xP]
def rLI:=And.intro (Q2 (cL cI)) <| And.intro (Yc (cL cI) 1 rfl) (And.intro (Dv cI) (DJ cI))
def rS:=And.intro (Z2 cS (fun _=>rfl)) <| And.intro (Yc cS 1 rfl) (And.intro Dm Cw)
inductive Res (α:Type) where
 | ok (a:α)
 | pan (x:D)
def Res.on {α β:Type} (r:Res α) (f:α→Option β) (g:D→Option β):Option β:=match r with
 | .ok a=>f a
 | .pan x=>g x
inductive Alt (α β:Type) where
 | a (x:α)
 | b (y:β)
def Alt.on {α β γ:Type} (r:Alt α β) (f:α→Option γ) (g:β→Option γ):Option γ:=match r with
 | .a x=>f x
 | .b y=>g y
theorem O6 {α β γ:Type} (x:α) (f:α→Option γ) (g:β→Option γ):(Alt.a x:Alt α β).on f g=f x:=rfl
theorem OW {α β γ:Type} (y:β) (f:α→Option γ) (g:β→Option γ):(Alt.b y:Alt α β).on f g=g y:=rfl
theorem Km {α β γ δ:Type} (r:Alt α β) (f:α→Option γ) (g:β→Option γ) (h:γ→Option δ):(r.on f g).bind h=r.on (fun a=>(f a).bind h) (fun x=>(g x).bind h):=by cases r <;> rfl
theorem Ep {α β:Type} (fl:TypeId→Bool) (ob:Nat→Ob) (d:Nat) (ls ms:List Nat) (r:Alt α β) (f:α→Option XOut) (g:β→Option XOut):dR fl ob d ls ms (r.on f g)=r.on (fun a=>dR fl ob d ls ms (f a)) (fun x=>dR fl ob d ls ms (g x)):=by cases r <;> rfl
theorem J8 {α β:Type} {E:En} {k:List KJ} {st:St} (d:Option Nat) (r:Alt α β) (f:α→Option Out) (g:β→Option Out) (l:List SOper):sp E d (r.on f g) l k st=r.on (fun a=>sp E d (f a) l k st) (fun x=>sp E d (g x) l k st):=by cases r <;> rfl
theorem Ll {α β:Type} {E:En} {k:List KJ} {st:St} (v:List Nat) (d:Option Nat) (op:SOp) (r:Alt α β) (f:α→Option Out) (g:β→Option Out) (l:List SOper):
  xE E v d op (r.on f g) l k st=r.on (fun a=>xE E v d op (f a) l k st) (fun x=>xE E v d op (g x) l k st):=by cases r <;> rfl
theorem Nw {α β:Type} {E:En} {k:List KJ} {st:St} (v fb:List Nat) (fl:Bool) (wt:List Nat) (d:Option Nat) (op:SOp) (r:Alt α β) (f:α→Option Out) (g:β→Option Out) (l:List SOper):
  uH E v fb fl wt d op (r.on f g) l k st=r.on (fun a=>uH E v fb fl wt d op (f a) l k st) (fun x=>uH E v fb fl wt d op (g x) l k st):=by cases r <;> rfl
theorem fh {α β:Type} (a:α) (f:α→Option β) (g:D→Option β):(Res.ok a).on f g=f a:=rfl
theorem Ms {α β:Type} (x:D) (f:α→Option β) (g:D→Option β):(Res.pan x:Res α).on f g=g x:=rfl
theorem HJ {α β γ:Type} (r:Res α) (f:α→Option β) (g:D→Option β) (h:β→Option γ):(r.on f g).bind h=r.on (fun a=>(f a).bind h) (fun x=>(g x).bind h):=by cases r <;> rfl
theorem Be {α:Type} (fl:TypeId→Bool) (ob:Nat→Ob) (d:Nat) (ls ms:List Nat) (r:Res α) (f:α→Option XOut) (g:D→Option XOut):dR fl ob d ls ms (r.on f g)=r.on (fun a=>dR fl ob d ls ms (f a)) (fun x=>dR fl ob d ls ms (g x)):=by cases r <;> rfl
theorem Gn {α:Type} {E:En} {k:List KJ} {st:St} (d:Option Nat) (r:Res α) (f:α→Option Out) (g:D→Option Out) (l:List SOper):sp E d (r.on f g) l k st=r.on (fun a=>sp E d (f a) l k st) (fun x=>sp E d (g x) l k st):=by cases r <;> rfl
theorem JX {α:Type} {E:En} {k:List KJ} {st:St} (v fb:List Nat) (fl:Bool) (wt:List Nat) (d:Option Nat) (op:SOp) (r:Res α) (f:α→Option Out) (g:D→Option Out) (l:List SOper):
  uH E v fb fl wt d op (r.on f g) l k st=r.on (fun a=>uH E v fb fl wt d op (f a) l k st) (fun x=>uH E v fb fl wt d op (g x) l k st):=by cases r <;> rfl
theorem Kj {α:Type} {E:En} {k:List KJ} {st:St} (v:List Nat) (d:Option Nat) (op:SOp) (r:Res α) (f:α→Option Out) (g:D→Option Out) (l:List SOper):
  xE E v d op (r.on f g) l k st=r.on (fun a=>xE E v d op (f a) l k st) (fun x=>xE E v d op (g x) l k st):=by cases r <;> rfl
mutual
def ncX:X→X
 | .own e s n _ cells lk=> .own e s n none cells lk
 | .box xs=> .box (qY xs)
 | .agg xs=> .agg (qY xs)
 | .tup xs=> .tup (qY xs)
 | .d x=> .d x
 | .nil=> .nil
 | .par k=> .par k
 | .res k x=> .res k x
def qY:List X→List X
 | []=>[]
 | x :: xs=>ncX x :: qY xs
end
def nocap:XOut→XOut
 | .ret x outs=> .ret (ncX x) outs
 | .pan x outs=> .pan x outs
theorem Di {α:Type} (c:Enc α) (e:Nat) (cap:Option Nat) (lk:Bool) (l:List α):ncX (zo c e cap lk l)=zo c e none lk l:=by simp only [zo,ncX]
theorem zaq (x:D):ncX (.d x)= .d x:=by simp only [ncX]
theorem Cy:ncX .nil= .nil:=by simp only [ncX]
theorem D1 (k:Nat):ncX (.par k)= .par k:=by simp only [ncX]
theorem El (k:RK) (x:D):ncX (.res k x)= .res k x:=by simp only [ncX]
theorem EP (xs:List X):ncX (.box xs)= .box (qY xs):=by simp only [ncX]
theorem F5 (xs:List X):ncX (.agg xs)= .agg (qY xs):=by simp only [ncX]
theorem Cz (xs:List X):ncX (.tup xs)= .tup (qY xs):=by simp only [ncX]
theorem GD:qY []=[]:=by simp only [qY]
theorem JO (x:X) (xs:List X):qY (x :: xs)=ncX x :: qY xs:=by simp only [qY]
theorem N6 (x:X) (outs:List (List D)):nocap (.ret x outs)= .ret (ncX x) outs:=rfl
theorem MW (x:D) (outs:List (List D)):nocap (.pan x outs)= .pan x outs:=rfl
inductive Md where
 | k
 | own (e s:Nat)
 | node (l:List Md)
 | dat
mutual
def yM:Md→X→X
 | .own e s,.nil=> .own e s 0 none [] false
 | .dat,.nil=> .d (.lst 0 [])
 | .node ms,.agg xs=> .agg (si ms xs)
 | .node ms,.tup xs=> .tup (si ms xs)
 | _,x=>x
def si:List Md→List X→List X
 | m :: ms,x :: xs=>yM m x :: si ms xs
 | _,xs=>xs
end
def yw (m:Md):XOut→XOut
 | .ret x outs=> .ret (yM m x) outs
 | .pan x outs=> .pan x outs
theorem FK (e s:Nat):yM (.own e s) .nil= .own e s 0 none [] false:=by simp only [yM]
theorem Ci (m:Md) (k:Nat):yM m (.par k)= .par k:=by cases m <;> simp only [yM]
theorem Dn (m:Md) (k:RK) (x:D):yM m (.res k x)= .res k x:=by cases m <;> simp only [yM]
theorem zaB:yM .dat .nil= .d (.lst 0 []):=by simp only [yM]
theorem AS (x:X):yM .k x=x:=by simp only [yM]
theorem FJ {α:Type} (c:Enc α) (m:Md) (e:Nat) (cap:Option Nat) (lk:Bool) (l:List α):yM m (zo c e cap lk l)=zo c e cap lk l:=by
 cases m <;> simp only [zo,yM]
theorem AI (m:Md) (x:D):yM m (.d x)= .d x:=by cases m <;> simp only [yM]
theorem DK (ms:List Md) (xs:List X):yM (.node ms) (.agg xs)= .agg (si ms xs):=by simp only [yM]
theorem ER (ms:List Md) (xs:List X):yM (.node ms) (.tup xs)= .tup (si ms xs):=by simp only [yM]
theorem HD (ms:List Md):si ms []=[]:=by cases ms <;> simp only [si]
theorem Ii (xs:List X):si [] xs=xs:=by simp only [si]
theorem K0 (m:Md) (ms:List Md) (x:X) (xs:List X):si (m :: ms) (x :: xs)=yM m x :: si ms xs:=by simp only [si]
theorem Mm (m:Md) (x:X) (outs:List (List D)):yw m (.ret x outs)= .ret (yM m x) outs:=rfl
theorem MQ (m:Md) (x:D) (outs:List (List D)):yw m (.pan x outs)= .pan x outs:=rfl
def mk1:List D→List D
 | [x]=>[x,.bool true]
 | ds=>ds
def kN:List Bool→List (List D)→List (List D)
 | true :: bs,ds :: outs=>mk1 ds :: kN bs outs
 | false :: bs,ds :: outs=>ds :: kN bs outs
 | _,outs=>outs
def O4 (bs:List Bool):XOut→XOut
 | .ret x outs=> .ret x (kN bs outs)
 | .pan x outs=> .pan x outs
theorem Lt (bs:List Bool) (x:X) (outs:List (List D)):O4 bs (.ret x outs)= .ret x (kN bs outs):=rfl
theorem MZ (bs:List Bool) (x:D) (outs:List (List D)):O4 bs (.pan x outs)= .pan x outs:=rfl
theorem IB (bs:List Bool) (ds:List D) (outs:List (List D)):kN (true :: bs) (ds :: outs)=mk1 ds :: kN bs outs:=rfl
theorem IA (bs:List Bool) (ds:List D) (outs:List (List D)):kN (false :: bs) (ds :: outs)=ds :: kN bs outs:=rfl
theorem TR (outs:List (List D)):kN [] outs=outs:=by cases outs <;> rfl
theorem BK (x:D):mk1 [x]=[x,.bool true]:=rfl
theorem Bh (x y:D):mk1 [x,y]=[x,y]:=rfl
def w64 (n:Int):Int:=IntKind.i64.wrap n
theorem DC (n:Int):IntKind.i64.wrap n=w64 n:=rfl
def ye:=And.intro Lt <| And.intro MZ <| And.intro IB <| And.intro IA <| And.intro TR <| And.intro BK <| And.intro Bh <| And.intro FK <| And.intro AS <| And.intro @FJ <| And.intro AI <| And.intro DK <| And.intro ER <| And.intro HD <| And.intro Ii <| And.intro K0 <| And.intro Mm <| And.intro MQ <| And.intro @Di <| And.intro zaq <| And.intro Cy <| And.intro D1 <| And.intro El <| And.intro Dn <| And.intro Ci <| And.intro EP <| And.intro F5 <| And.intro Cz <| And.intro GD <| And.intro JO <| And.intro N6 <| And.intro MW <| And.intro @CD <| And.intro @Cl <| And.intro PE <| And.intro @DC <| And.intro @O6 <| And.intro @OW <| And.intro @Km <| And.intro @Ep <| And.intro @J8 <| And.intro @Ll <| And.intro @Nw <| And.intro @fh <| And.intro @Ms <| And.intro @HJ <| And.intro @Be <| And.intro @Gn <| And.intro @Kj <| And.intro @JX <| And.intro Lx <| And.intro @NE <| And.intro @MT (And.intro @J0 (And.intro @Hh (And.intro @ww (And.intro @Oz @N1))))
def yc:=And.intro @Option.some_beq_some.{0} <| And.intro @Nat.zero_add <| And.intro @Nat.add_zero <| And.intro @Bool.not_true <| And.intro @Bool.not_false <| And.intro @Bool.and_true <| And.intro @Bool.true_and <| And.intro @Bool.and_false <| And.intro @Bool.false_and <| And.intro @Bool.and_self <| And.intro @Bool.or_false <| And.intro @Bool.false_or <| And.intro @Bool.or_true <| And.intro @Bool.true_or <| And.intro @Bool.or_self <| And.intro @decide_eq_true_eq <| And.intro @Bool.not_eq_true' <| And.intro @Bool.not_eq_eq_eq_not <| And.intro @decide_eq_false_iff_not <| And.intro @ite_not.{1} <| And.intro @ite_self.{1} <| And.intro @List.nil_append.{0} <| And.intro @List.append_nil.{0} <| And.intro @Option.map_some.{0,0} <| And.intro @Option.map_none.{0,0} <| And.intro @List.length_replicate.{0} <| And.intro @Int.natCast_nonneg <| And.intro @and_self <| And.intro @and_true <| And.intro @true_and <| And.intro @Bool.false_eq_true <| And.intro @decide_true <| And.intro @decide_false <| And.intro @List.cons_append.{0} <| And.intro @Int.cast_ofNat_Int <| And.intro @not_true_eq_false <| And.intro @not_false_eq_true <| @eq_self.{1}
structure Hy (E:En) (ps pl:List Nat) (ck:List (Nat×KO)) (rs:List RV) (dd:Option (List Nat×List Nat)) (wk:XOut→XOut) (fl:Nat→Bool):Prop where
 p:E.ps=ps
 l:E.pl=pl
 k:E.ck=ck
 r:E.rs=rs
 d:E.dd=dd
 w:∀ y,E.wk y=some (wk y)
 f:∀ e,E.Γ.fl e=fl e
end Go.Vm
