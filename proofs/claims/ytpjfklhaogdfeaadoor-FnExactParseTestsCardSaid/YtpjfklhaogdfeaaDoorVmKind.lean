/- The rules for lists of one kind, bundled. -/
import Derived.Test.YtpjfklhaogdfeaaDoorVmRul
set_option linter.unusedVariables false
set_option linter.unusedSectionVars false
set_option linter.unusedSimpArgs false
set_option linter.defProp false
namespace Go.Vm
def ub:=sg
@[congr] theorem M7 {E:En} {keep:List Nat} {b:Cd} {k:List KJ} {m:Nat} {st st':St} (h:st=st'):gH E keep b k m st=gH E keep b k m st':=by rw [h]
theorem zj (c c':Cd) (h:c=c') {E:En} {k:List KJ} {st:St}:G E c k st=G E c' k st:=by rw [h]
@[congr] theorem Lt {E:En} {c c':Cd} {k:List KJ} {st:St} (h:c=c'):G E c k st=G E c' k st:=by rw [h]
section
variable {α:Type} (c:Enc α) (n:Nat) (h:n=c.sz)
theorem Su (l:List α) (m:Nat):n=c.sz→it (zf c l) (m * n) n=(l[m]?).bind fun x=>some (c.enc x):=by
 intro h
 rw [ST c l m n h]; cases l[m]? <;> rfl
def px (cells:List D) (o:Nat) (xs:List D):List D:=cells.take o++xs++cells.drop (o+xs.length)
theorem Zl (e:Nat) (cap:Option Nat) (l:List α) (m o:Nat) (xs:List D) (y y':α) (hy:l[m]? =some y) (ho:o+xs.length ≤ c.sz) (hd:c.dec (px (c.enc y) o xs)=some y'):
  sg (e,c.sz,l.length,cap,zf c l) (m * c.sz+o) xs=some (zP c e cap (l.set m y')):=by
 have hm:m < l.length:=by
  apply Classical.byContradiction
  intro hn
  rw [List.getElem?_eq_none (by omega)] at hy; cases hy
 have hmul:=Nat.mul_le_mul_right c.sz (show m+1 ≤ l.length from hm)
 rw [Nat.succ_mul] at hmul
 have e':=c.dcd _ _ hd
 have e1:zf c l=zf c (l.take m)++(c.enc y++zf c (l.drop (m+1))):=by
  have h1:=pA c hy
  rw [← h1,rf,← qe,List.take_append_drop]
 have e2:zf c (l.set m y')=zf c (l.take m)++(c.enc y'++zf c (l.drop (m+1))):=by
  rw [List.set_eq_take_append_cons_drop,if_pos hm,qe]
  simp [zf]
 have e3:(zf c (l.take m)).length=m * c.sz:=by rw [yI,List.length_take,Nat.min_eq_left (by omega)]
 unfold sg
 simp only
 rw [if_pos (by rw [yI]; omega)]
 simp only [zP,List.length_set,e2,← e',px]
 congr 1
 congr 1
 have d1:(zf c (l.take m)).drop (m * c.sz+o+xs.length)=[]:=List.drop_eq_nil_of_le (by omega)
 have t1:(zf c (l.take m)).take (m * c.sz+o)=zf c (l.take m):=List.take_of_length_le (by omega)
 rw [e1,List.take_append,List.drop_append,e3,t1,d1]
 have a1:m * c.sz+o - m * c.sz=o:=by omega
 have a2:m * c.sz+o+xs.length - m * c.sz=o+xs.length:=by omega
 rw [a1,a2,List.take_append_of_le_length (by rw [c.len]; omega),List.drop_append_of_le_length (by rw [c.len]; omega)]
 simp only [List.nil_append,List.append_assoc]
theorem N8 (e:Nat) (cap:Option Nat) (l:List α) (m o:Nat) (xs:List D):n=c.sz→sg (e,c.sz,l.length,cap,zf c l) (m * n+o) xs=
  if o+xs.length ≤ n then (match l[m]? with
   | some y=>(c.dec (px (c.enc y) o xs)).elim (ub (e,c.sz,l.length,cap,zf c l) (m * n+o) xs) fun y'=>some (zP c e cap (l.set m y'))
   | none=>ub (e,c.sz,l.length,cap,zf c l) (m * n+o) xs) else ub (e,c.sz,l.length,cap,zf c l) (m * n+o) xs:=by
 intro h
 subst h
 split
 ·rename_i ho
  cases hy:l[m]? with
  | none=>rfl
  | some y=>
    simp only
    cases hd:c.dec (px (c.enc y) o xs) with
    | none=>rfl
    | some y'=>exact Zl c e cap l m o xs y y' hy ho hd
 ·rfl
theorem aO {R:Nat×Nat×Nat×Option Nat×List D} {e:Nat} {cap:Option Nat} {m o:Nat} {xs:List D} {l:List α} (h:l.length ≤ m) (hx:0 < xs.length):ub (e,c.sz,l.length,cap,zf c l) (m * c.sz+o) xs=none:=by
 unfold ub sg
 simp only
 rw [if_neg]
 rw [yI]
 have:=Nat.mul_le_mul_right c.sz h
 omega
theorem Xe (e:Nat) (cap:Option Nat) (l:List α) (m o:Nat) (xs:List D):n=c.sz→sg (e,c.sz,l.length,cap,zf c l) (m * n+o) xs=
  if o+xs.length ≤ n∧0 < xs.length then (l[m]?).bind fun y=>(c.dec (px (c.enc y) o xs)).elim (ub (e,c.sz,l.length,cap,zf c l) (m * n+o) xs) fun y'=>some (zP c e cap (l.set m y'))
  else ub (e,c.sz,l.length,cap,zf c l) (m * n+o) xs:=by
 intro h
 split
 ·rename_i ho
  rw [N8 c n e cap l m o xs h,if_pos ho.1]
  subst h
  cases hy:l[m]? with
  | none=>exact aO c (R:=(e,c.sz,l.length,cap,zf c l)) (List.getElem?_eq_none_iff.mp hy) ho.2
  | some y=>rfl
 ·rfl
theorem M8 (e:Nat) (cap:Option Nat) (l:List α) (m:Nat) (xs:List D):n=c.sz→sg (e,c.sz,l.length,cap,zf c l) (m * n) xs=
  (c.dec xs).elim (if 0+xs.length ≤ n∧0 < xs.length then (l[m]?).bind fun y=>(c.dec (px (c.enc y) 0 xs)).elim (ub (e,c.sz,l.length,cap,zf c l) (m * n+0) xs) fun y'=>some (zP c e cap (l.set m y'))
    else ub (e,c.sz,l.length,cap,zf c l) (m * n+0) xs) fun x=>(ot l m x).bind fun l'=>some (zP c e cap l'):=by
 intro h
 cases hd:c.dec xs with
 | none=>
   exact Xe c n e cap l m 0 xs h
 | some x=>
   subst h
   rw [bx c e cap l m c.sz xs x rfl hd]
   simp only [Option.elim]
   cases ot l m x <;> rfl
theorem NO (e:Nat) (cap:Option Nat) (l l':List α) (b:Nat):n=c.sz→
  nd (e,c.sz,l.length,cap,zf c l) e n b (zb c l')=if tl b (l++l').length then some (zP c e none (l++l')) else none:=by
 rintro rfl; exact OU c e cap l l' c.sz b rfl
theorem O5 (e:Nat) (cap:Option Nat) (l:List α) (k k':IntKind) (lo hi:Int):n=c.sz→om (e,c.sz,l.length,cap,zf c l) n true true [.d (.int k lo),.d (.int k' hi)]=(cut l lo hi).bind fun l'=>some (zb c l'):=by
 rintro rfl; exact Qm c e c.sz cap l k k' lo hi rfl
theorem Pb (e:Nat) (cap:Option Nat) (l:List α) (k:IntKind) (lo:Int):n=c.sz→om (e,c.sz,l.length,cap,zf c l) n true false [.d (.int k lo)]=(cut l lo l.length).bind fun l'=>some (zb c l'):=by
 rintro rfl; exact QN c e c.sz cap l k lo rfl
theorem Pm (e:Nat) (cap:Option Nat) (l:List α) (k:IntKind) (hi:Int):n=c.sz→om (e,c.sz,l.length,cap,zf c l) n false true [.d (.int k hi)]=(cut l 0 hi).bind fun l'=>some (zb c l'):=by
 rintro rfl; exact Ps c e c.sz cap l k hi rfl
theorem hZ (e:Nat) (cap:Option Nat) (l:List α) (m o:Nat) (xs:List D) (z:Nat) (hz:l.length=z) (h:n=c.sz):sg (e,c.sz,z,cap,zf c l) (m * n+o) xs=
  if o+xs.length ≤ n∧0 < xs.length then (l[m]?).bind fun y=>(c.dec (px (c.enc y) o xs)).elim (ub (e,c.sz,l.length,cap,zf c l) (m * n+o) xs) fun y'=>some (zP c e cap (l.set m y'))
  else ub (e,c.sz,l.length,cap,zf c l) (m * n+o) xs:=hz ▸ Xe c n e cap l m o xs h
theorem Ml (e:Nat) (cap:Option Nat) (l:List α) (m:Nat) (xs:List D) (z:Nat) (hz:l.length=z) (h:n=c.sz):sg (e,c.sz,z,cap,zf c l) (m * n) xs=
  (c.dec xs).elim (if 0+xs.length ≤ n∧0 < xs.length then (l[m]?).bind fun y=>(c.dec (px (c.enc y) 0 xs)).elim (ub (e,c.sz,l.length,cap,zf c l) (m * n+0) xs) fun y'=>some (zP c e cap (l.set m y'))
    else ub (e,c.sz,l.length,cap,zf c l) (m * n+0) xs) fun x=>(ot l m x).bind fun l'=>some (zP c e cap l'):=hz ▸ M8 c n e cap l m xs h
theorem PL (e:Nat) (cap:Option Nat) (l l':List α) (b:Nat) (z:Nat) (hz:l.length=z) (h:n=c.sz):
  nd (e,c.sz,z,cap,zf c l) e n b (zb c l')=if tl b (l++l').length then some (zP c e none (l++l')) else none:=hz ▸ NO c n e cap l l' b h
theorem Om (r:Nat×Nat×Nat×Option Nat×List D) (e b:Nat) (l:List α):nd r e n b (iA c l)=nd r e n b (zb c l):=rfl
theorem PI (e:Nat) (cap:Option Nat) (l:List α) (h':Int) (z:Nat) (hz:l.length=z) (h:n=c.sz):
  dP (e,c.sz,z,cap,zf c l) n h'=if 0 ≤ h'∧h' ≤ l.length then some (zP c e cap (l.take h'.toNat)) else none:=by
 subst hz h; exact Pr c e cap l c.sz rfl h'
theorem TL (e:Nat) (cap:Option Nat) (l:List α) (k k':IntKind) (lo hi:Int) (z:Nat) (hz:l.length=z) (h:n=c.sz):om (e,c.sz,z,cap,zf c l) n true true [.d (.int k lo),.d (.int k' hi)]=(cut l lo hi).bind fun l'=>some (zb c l'):=hz ▸ O5 c n e cap l k k' lo hi h
theorem Sv (e:Nat) (cap:Option Nat) (l:List α) (k:IntKind) (lo:Int) (z:Nat) (hz:l.length=z) (h:n=c.sz):om (e,c.sz,z,cap,zf c l) n true false [.d (.int k lo)]=(cut l lo l.length).bind fun l'=>some (zb c l'):=hz ▸ Pb c n e cap l k lo h
theorem SG (e:Nat) (cap:Option Nat) (l:List α) (k:IntKind) (hi:Int) (z:Nat) (hz:l.length=z) (h:n=c.sz):om (e,c.sz,z,cap,zf c l) n false true [.d (.int k hi)]=(cut l 0 hi).bind fun l'=>some (zb c l'):=hz ▸ Pm c n e cap l k hi h
theorem az (l:List α) (m o:Nat) (ho:o < c.sz):n=c.sz→(zf c l)[m * n+o]? =(l[m]?).bind fun x=>(c.enc x)[o]? :=by
 rintro rfl; exact ai c l m o ho
theorem SB (l:List α):n=c.sz→(zf c l)[0]? =(l[0]?).bind fun x=>(c.enc x)[0]? :=by
 rintro rfl
 have:=ai c l 0 0 c.pos
 simpa using this
theorem X2 (l:List α) (m:Nat):n=c.sz→(zf c l)[m * n]? =(l[m]?).bind fun x=>(c.enc x)[0]? :=by
 rintro rfl; exact ai c l m 0 c.pos
end
def kj {α:Type} (c:Enc α) (n:Nat) (h:n=c.sz):=
 And.intro (fun {Γ ob d} l k i=>N2 (Γ:=Γ) (ob:=ob) (d:=d) c l n k i h) <|
 And.intro (fun {Γ ob d} l=>Oy (Γ:=Γ) (ob:=ob) (d:=d) c l) <|
 And.intro (fun {Γ ob d} l k k' lo hi=>Rv (Γ:=Γ) (ob:=ob) (d:=d) c l n k k' lo hi h) <|
 And.intro (fun {Γ ob d} l k lo=>RW (Γ:=Γ) (ob:=ob) (d:=d) c l n k lo h) <|
 And.intro (fun {Γ ob d} l k hi=>SR (Γ:=Γ) (ob:=ob) (d:=d) c l n k hi h) <|
 And.intro (QW c) <| And.intro (Rm c) <| And.intro (Lm c) <| And.intro (M9 c) <| And.intro (SX c) <| And.intro (RM c) <| And.intro (fun {ob} v e cap l=>WT (ob:=ob) c v e cap l) <| And.intro (fun v e e' cap l lk=>WA c v e e' n cap l lk h) <| And.intro (Pt c) <| And.intro (fun {ob d} e cap lk l j=>Np (ob:=ob) (d:=d) c e cap lk l j) <|
 And.intro (fun {ob} m e cap l=>Pl (ob:=ob) c m e cap l) <| And.intro (fun {ob} m e cap l=>TK (ob:=ob) c m e cap l) <|
 And.intro (fun l m=>Su c n l m h) <| And.intro (fun e cap l m xs z hz=>Ml c n e cap l m xs z hz h) <| And.intro (fun e cap l l' b z hz=>PL c n e cap l l' b z hz h) <| And.intro (fun r e b l=>Om c n r e b l) <| And.intro (fun l=>SB c n l h) <| And.intro (OP c) <| And.intro (QL c) <| And.intro (fun e cap l h' z hz=>PI c n e cap l h' z hz h) <|
 And.intro (fun e cap l k k' lo hi z hz=>TL c n e cap l k k' lo hi z hz h) <| And.intro (fun e cap l k lo z hz=>Sv c n e cap l k lo z hz h) <| And.intro (fun e cap l k hi z hz=>SG c n e cap l k hi z hz h) (fun l m=>X2 c n l m h)
def pX {α:Type} (c:Enc α) (s:Nat):Nat→List D→Option (List α)
 | 0,[]=>some []
 | 0,_ :: _=>none
 | n+1,xs=>(c.dec (xs.take s)).bind fun x=>(pX c s n (xs.drop s)).bind fun l=>some (x :: l)
theorem gj {α:Type} (c:Enc α) (s:Nat) (hs:s=c.sz):∀ (n:Nat) (xs:List D) (l:List α),pX c s n xs=some l→xs=zf c l∧n=l.length
 | 0,[],l,h=>by cases h; exact ⟨rfl,rfl⟩
 | 0,_ :: _,l,h=>by cases h
 | n+1,xs,l,h=>by
   simp only [pX] at h
   obtain ⟨x,h1,h⟩:=Option.bind_eq_some_iff.mp h
   obtain ⟨l',h2,h⟩:=Option.bind_eq_some_iff.mp h
   cases h
   obtain ⟨e1,e2⟩:=gj c s hs n _ _ h2
   have e3:=c.dcd _ _ h1
   refine ⟨?_,by simp [e2]⟩
   rw [← List.take_append_drop s xs,e3,e1]
   simp [zf]
theorem Yo {α:Type} (c:Enc α):∀ (l:List α),pX c c.sz l.length (zf c l)=some l
 | []=>rfl
 | x :: l=>by
   have h:zf c (x :: l)=c.enc x++zf c l:=by simp [zf]
   have h1:(c.enc x++zf c l).take c.sz=c.enc x:=by rw [List.take_append_of_le_length (by rw [c.len]; exact Nat.le_refl _),List.take_of_length_le (by rw [c.len]; exact Nat.le_refl _)]
   have h2:(c.enc x++zf c l).drop c.sz=zf c l:=by rw [List.drop_append,List.drop_eq_nil_of_le (by rw [c.len]; exact Nat.le_refl _),c.len]; simp
   rw [h,List.length_cons]
   simp only [pX,h1,h2,c.edc,Yo c l,Option.bind_some]
def na {α:Type} (c:Enc α):D→Option (List α)
 | .lst n cs=>pX c c.sz n cs
 | _=>none
theorem nG {α:Type} {c:Enc α} {d:D} {l:List α} (h:na c d=some l):d=zb c l:=by
 unfold na at h
 split at h
 ·obtain ⟨e1,e2⟩:=gj c c.sz rfl _ _ _ h
  rw [e1,e2]; rfl
 ·cases h
theorem pT {α:Type} (c:Enc α) (l:List α):na c (zb c l)=some l:=Yo c l
def Tr {α:Type} (c:Enc α):List D→Option (List α)
 | [d]=>na c d
 | _=>none
def cL {α:Type} (c:Enc α):Enc (List α) where
 sz:=1
 enc l:=[zb c l]
 dec:=Tr c
 len _:=rfl
 pos:=by decide
 dcd:=by
  intro xs x h
  unfold Tr at h
  split at h
  ·rw [nG h]
  ·cases h
 edc l:=pT c l
theorem OF {α:Type} (c:Enc α) (l:List α):(cL c).enc l=[zb c l]:=rfl
theorem Qy {α:Type} (c:Enc α) (l:List α):(cL c).dec [zb c l]=some l:=pT c l
theorem Pp {α:Type} (c:Enc α) (s:Nat):pX c s 0 []=some []:=rfl
theorem Pf {α:Type} (c:Enc α) (s n:Nat) (xs:List D):pX c s (n+1) xs=(c.dec (xs.take s)).bind fun x=>(pX c s n (xs.drop s)).bind fun l=>some (x :: l):=rfl
theorem NP {α:Type} (c:Enc α) (e s:Nat) (hs:s=c.sz) (n:Nat) (xs:List D):iv e s n xs=(pX c s n xs).elim (O.row e s n (some n) xs) fun l=>zP c e (some n) l:=by
 cases h:pX c s n xs with
 | none=>rfl
 | some l=>
   obtain ⟨e1,e2⟩:=gj c s hs n xs l h
   subst hs
   simp only [iv,Option.elim,zP,e1,e2]
theorem PW {α:Type} (c:Enc α) (e s:Nat) (hs:s=c.sz) (zs:List D) (z:α) (hz:c.dec zs=some z) (n cap:Nat):bA e s n cap zs=zP c e (some cap) (List.replicate n z):=by
 subst hs
 exact bE c e (some cap) n zs z hz
theorem Wx {α:Type} (c:Enc α) (e s:Nat) (hs:s=c.sz):X.own e s 0 none [] false=zx c e none false []:=by subst hs; rfl
theorem Si {α:Type} (c:Enc α) (e s:Nat) (hs:s=c.sz) (zs:List D) (z:α) (hz:c.dec zs=some z) (n:Nat):d5 e s n zs=zP c e none (List.replicate n z):=by
 subst hs
 exact bE c e none n zs z hz
def zOk (b:Nat) (k:Int):Prop:=0 ≤ k∧k.toNat * b ≤ vQ∧k ≤ 9223372036854775807
instance (b:Nat) (k:Int):Decidable (zOk b k):=by unfold zOk; infer_instance
theorem QD {α:Type} (c:Enc α) (e s:Nat) (hs:s=c.sz) (zs:List D) (x:α) (hx:c.dec zs=some x) (id ver b:Nat) (k:Int):
  Wn id ver e s b zs k=if zOk b k then (if k=0 then some (.val .nil []) else some (.val (.row id ver) [(id,⟨ver,zP c e none (List.replicate k.toNat x),false⟩)])) else none:=by
 unfold Wn
 rw [Si c e s hs zs x hx]
 subst hs
 obtain rfl:=c.dcd _ _ hx
 by_cases h:zOk b k
 ·have h':=h
  unfold zOk at h'
  rw [if_pos h,if_pos ⟨h'.1,c.len _,c.pos,h'.2.1,h'.2.2⟩]
 ·rw [if_neg h,if_neg (fun q=>h ⟨q.1,q.2.2.2.1,q.2.2.2.2⟩)]
theorem QS {α:Type} (c:Enc α) (e s:Nat) (hs:s=c.sz) (zs:List D) (x:α) (hx:c.dec zs=some x) (cap:Option Nat) (l:List α) (b:Nat) (k:Int) (z:Nat) (hz:l.length=z):
  jP (e,c.sz,z,cap,zf c l) e s b zs k=if 0 ≤ k∧tl b (l++List.replicate k.toNat x).length then some (zP c e none (l++List.replicate k.toNat x)) else none:=by
 subst hz hs; exact TX c e cap l c.sz b rfl zs x hx k
theorem NH {α:Type} (c:Enc α) (e s:Nat) (hs:s=c.sz) (zs:List D) (x:α) (hx:c.dec zs=some x) (cap:Option Nat) (l:List α) (lo:Nat) (z:Nat) (hz:l.length=z):
  ew (e,c.sz,z,cap,zf c l) zs lo s=if lo ≤ l.length then some (zP c e cap (l.take lo++List.replicate (l.length - lo) x)) else none:=Qk c e cap l zs x hx lo s hs z hz
def ZV {α:Type} (c:Enc α) (e s:Nat) (hs:s=c.sz) (zs:List D) (z:α) (hz:c.dec zs=some z):=And.intro (Wx c e s hs) <| And.intro (NP c e s hs) <| And.intro (PW c e s hs zs z hz) <| And.intro (QD c e s hs zs z hz) <| And.intro (NH c e s hs zs z hz) (QS c e s hs zs z hz)
theorem LG {α β:Type} (a:Int) (X Y N:Option β) (L:Option α) (p:α→Prop) [∀ y,Decidable (p y)] (W V:α→Option β):
  (if a < 1 then X else if 10 < a then Y else L.bind fun y=>if p y then if a.toNat * 1=0 then W y else V y else N)
    =if a < 1 then X else if 10 < a then Y else L.bind fun y=>if p y then V y else N:=by
 by_cases h:a < 1
 ·rw [if_pos h,if_pos h]
 ·have h':¬ a.toNat * 1=0:=by omega
  simp only [h',if_false]
theorem aE (n:Nat):(n:Int).toNat=n:=Int.toNat_natCast n
theorem kw {α:Type} (c:Enc α) (h:∀ x,(c.enc x).all D.flat=true) (fl:TypeId→Bool) (e:Nat) (cap:Option Nat) (lk:Bool) (l:List α):yd fl (zx c e cap lk l)=fl e:=by
 have:(zf c l).all D.flat=true:=by
  unfold zf
  rw [List.all_flatMap]
  simp [h]
 simp only [zx,yd,this,Bool.and_true]
theorem Ok (x:Int):cI.enc x=[.int .i64 x]:=rfl
theorem P5 (x:Int):cI.dec [.int .i64 x]=some x:=rfl
theorem OS (x:Int):c8.enc x=[.int .u8 x]:=rfl
theorem Ql (x:Int):c8.dec [.int .u8 x]=some x:=rfl
theorem On (x:Bool):cB.enc x=[.bool x]:=rfl
theorem PQ (x:Bool):cB.dec [.bool x]=some x:=rfl
theorem Nf (x:List UInt8):cS.enc x=[sD x]:=rfl
theorem Ow (x:List UInt8):cS.dec [sD x]=some x:=rfl
theorem U0 (cells:List D) (o:Nat) (xs:List D):px cells o xs=cells.take o++xs++cells.drop (o+xs.length):=rfl
theorem YC {α β:Type} (b:β) (f:α→β):(none:Option α).elim b f=b:=rfl
theorem Ya {α β:Type} (b:β) (f:α→β) (x:α):(some x).elim b f=f x:=rfl
theorem WS {α:Type} (a:α) (l r:List α):(a :: l)++r=a :: (l++r):=rfl
theorem Rr {α:Type} (r:List α):[]++r=r:=rfl
theorem Zh {α β:Type} (x:α) (f:α→Option β):(some x).bind f=f x:=rfl
theorem bS {α β:Type} (f:α→Option β):(none:Option α).bind f=none:=rfl
theorem Yd {α β γ:Type} (x:Option α) (f:α→Option β) (g:β→Option γ):(x.bind f).bind g=x.bind fun y=>(f y).bind g:=Option.bind_assoc ..
theorem pY {α:Type} (c:Enc α) (k K:Nat) (h:K=k * c.sz) (l:List α):(zf c l)[K]? =(l[k]?).bind fun x=>(c.enc x)[0]? :=by
 subst h; exact X2 c c.sz l k rfl
theorem Qo {α:Type} (c:Enc α) (e:Nat) (cap:Option Nat) (l:List α) (xs:List D) (z:Nat) (hz:l.length=z):sg (e,c.sz,z,cap,zf c l) 0 xs=
  (c.dec xs).elim (ub (e,c.sz,z,cap,zf c l) 0 xs) fun x=>(ot l 0 x).bind fun l'=>some (zP c e cap l'):=by
 cases hd:c.dec xs with
 | none=>rfl
 | some x=>
   subst hz
   have:=bx c e cap l 0 c.sz xs x rfl hd
   rw [Nat.zero_mul] at this
   rw [this]
   simp only [Option.elim]
   cases ot l 0 x <;> rfl
theorem T6 {α:Type} (a:α) (l:List α) (x:α):ot (a :: l) 0 x=some (x :: l):=by simp [ot]
def eb {α:Type} (c:Enc α) (h:c.sz=1):=And.intro (Qo c) <| And.intro (@T6 α) <| And.intro (pY c 1 1 (by rw [h])) <| And.intro (pY c 2 2 (by rw [h])) <| And.intro (pY c 3 3 (by rw [h])) <| And.intro (pY c 4 4 (by rw [h])) (pY c 5 5 (by rw [h]))
def yJ:=And.intro (eb cI rfl) <| And.intro (eb cS rfl) <| And.intro (eb cB rfl) (eb c8 rfl)
def rI:=And.intro (kw cI (fun _=>rfl)) <| And.intro (kj cI 1 rfl) (And.intro Ok P5)
def r8:=And.intro (kw c8 (fun _=>rfl)) <| And.intro (kj c8 1 rfl) (And.intro OS Ql)
def rB:=And.intro (kw cB (fun _=>rfl)) <| And.intro (kj cB 1 rfl) (And.intro On PQ)
theorem bI {α:Type} (c:Enc α) (fl:TypeId→Bool) (e:Nat) (cap:Option Nat) (lk:Bool) (l:List α):yd fl (zx c e cap lk l)=(fl e&&(zf c l).all D.flat):=by simp only [zx,yd]
def rLI:=And.intro (bI (cL cI)) <| And.intro (kj (cL cI) 1 rfl) (And.intro (OF cI) (Qy cI))
def rS:=And.intro (kw cS (fun _=>rfl)) <| And.intro (kj cS 1 rfl) (And.intro Nf Ow)
inductive Res (α:Type) where
 | ok (a:α)
 | pan (x:D)
def Res.on {α β:Type} (r:Res α) (f:α→Option β) (g:D→Option β):Option β:=match r with
 | .ok a=>f a
 | .pan x=>g x
inductive Alt (α β:Type) where
 | a (x:α)
 | b (y:β)
def Alt.on {α β γ:Type} (r:Alt α β) (f:α→Option γ) (g:β→Option γ):Option γ:=match r with
 | .a x=>f x
 | .b y=>g y
theorem NJ {α β γ:Type} (x:α) (f:α→Option γ) (g:β→Option γ):(Alt.a x:Alt α β).on f g=f x:=rfl
theorem NZ {α β γ:Type} (y:β) (f:α→Option γ) (g:β→Option γ):(Alt.b y:Alt α β).on f g=g y:=rfl
theorem Ww {α β γ δ:Type} (r:Alt α β) (f:α→Option γ) (g:β→Option γ) (h:γ→Option δ):(r.on f g).bind h=r.on (fun a=>(f a).bind h) (fun x=>(g x).bind h):=by cases r <;> rfl
theorem Pn {α β:Type} (fl:TypeId→Bool) (ob:Nat→Ob) (d:Nat) (ls ms:List Nat) (r:Alt α β) (f:α→Option XOut) (g:β→Option XOut):dR fl ob d ls ms (r.on f g)=r.on (fun a=>dR fl ob d ls ms (f a)) (fun x=>dR fl ob d ls ms (g x)):=by cases r <;> rfl
theorem VF {α β:Type} {E:En} {k:List KJ} {st:St} (d:Option Nat) (r:Alt α β) (f:α→Option Out) (g:β→Option Out) (l:List SOper):wM E d (r.on f g) l k st=r.on (fun a=>wM E d (f a) l k st) (fun x=>wM E d (g x) l k st):=by cases r <;> rfl
theorem Wg {α β:Type} {E:En} {k:List KJ} {st:St} (v:List Nat) (d:Option Nat) (op:SOp) (r:Alt α β) (f:α→Option Out) (g:β→Option Out) (l:List SOper):
  z6 E v d op (r.on f g) l k st=r.on (fun a=>z6 E v d op (f a) l k st) (fun x=>z6 E v d op (g x) l k st):=by cases r <;> rfl
theorem XK {α β:Type} {E:En} {k:List KJ} {st:St} (v fb:List Nat) (fl:Bool) (wt:List Nat) (d:Option Nat) (op:SOp) (r:Alt α β) (f:α→Option Out) (g:β→Option Out) (l:List SOper):
  xA E v fb fl wt d op (r.on f g) l k st=r.on (fun a=>xA E v fb fl wt d op (f a) l k st) (fun x=>xA E v fb fl wt d op (g x) l k st):=by cases r <;> rfl
theorem NQ {α β:Type} (a:α) (f:α→Option β) (g:D→Option β):(Res.ok a).on f g=f a:=rfl
theorem PT {α β:Type} (x:D) (f:α→Option β) (g:D→Option β):(Res.pan x:Res α).on f g=g x:=rfl
theorem SI {α β γ:Type} (r:Res α) (f:α→Option β) (g:D→Option β) (h:β→Option γ):(r.on f g).bind h=r.on (fun a=>(f a).bind h) (fun x=>(g x).bind h):=by cases r <;> rfl
theorem Nv {α:Type} (fl:TypeId→Bool) (ob:Nat→Ob) (d:Nat) (ls ms:List Nat) (r:Res α) (f:α→Option XOut) (g:D→Option XOut):dR fl ob d ls ms (r.on f g)=r.on (fun a=>dR fl ob d ls ms (f a)) (fun x=>dR fl ob d ls ms (g x)):=by cases r <;> rfl
theorem SL {α:Type} {E:En} {k:List KJ} {st:St} (d:Option Nat) (r:Res α) (f:α→Option Out) (g:D→Option Out) (l:List SOper):wM E d (r.on f g) l k st=r.on (fun a=>wM E d (f a) l k st) (fun x=>wM E d (g x) l k st):=by cases r <;> rfl
theorem U5 {α:Type} {E:En} {k:List KJ} {st:St} (v fb:List Nat) (fl:Bool) (wt:List Nat) (d:Option Nat) (op:SOp) (r:Res α) (f:α→Option Out) (g:D→Option Out) (l:List SOper):
  xA E v fb fl wt d op (r.on f g) l k st=r.on (fun a=>xA E v fb fl wt d op (f a) l k st) (fun x=>xA E v fb fl wt d op (g x) l k st):=by cases r <;> rfl
theorem Wk {α:Type} {E:En} {k:List KJ} {st:St} (v:List Nat) (d:Option Nat) (op:SOp) (r:Res α) (f:α→Option Out) (g:D→Option Out) (l:List SOper):
  z6 E v d op (r.on f g) l k st=r.on (fun a=>z6 E v d op (f a) l k st) (fun x=>z6 E v d op (g x) l k st):=by cases r <;> rfl
mutual
def ncX:X→X
 | .own e s n _ cells lk=> .own e s n none cells lk
 | .box xs=> .box (vR xs)
 | .agg xs=> .agg (vR xs)
 | .tup xs=> .tup (vR xs)
 | .d x=> .d x
 | .nil=> .nil
 | .par k=> .par k
 | .res k x=> .res k x
def vR:List X→List X
 | []=>[]
 | x :: xs=>ncX x :: vR xs
end
def nocap:XOut→XOut
 | .ret x outs=> .ret (ncX x) outs
 | .pan x outs=> .pan x outs
theorem Pv {α:Type} (c:Enc α) (e:Nat) (cap:Option Nat) (lk:Bool) (l:List α):ncX (zx c e cap lk l)=zx c e none lk l:=by simp only [zx,ncX]
theorem M6 (x:D):ncX (.d x)= .d x:=by simp only [ncX]
theorem Po:ncX .nil= .nil:=by simp only [ncX]
theorem Qs (k:Nat):ncX (.par k)= .par k:=by simp only [ncX]
theorem Pw (k:RK) (x:D):ncX (.res k x)= .res k x:=by simp only [ncX]
theorem OA (xs:List X):ncX (.box xs)= .box (vR xs):=by simp only [ncX]
theorem OD (xs:List X):ncX (.agg xs)= .agg (vR xs):=by simp only [ncX]
theorem Qz (xs:List X):ncX (.tup xs)= .tup (vR xs):=by simp only [ncX]
theorem Sh:vR []=[]:=by simp only [vR]
theorem Us (x:X) (xs:List X):vR (x :: xs)=ncX x :: vR xs:=by simp only [vR]
theorem Xn (x:X) (outs:List (List D)):nocap (.ret x outs)= .ret (ncX x) outs:=rfl
theorem YQ (x:D) (outs:List (List D)):nocap (.pan x outs)= .pan x outs:=rfl
inductive Md where
 | k
 | own (e s:Nat)
 | node (l:List Md)
 | dat
mutual
def zE:Md→X→X
 | .own e s,.nil=> .own e s 0 none [] false
 | .dat,.nil=> .d (.lst 0 [])
 | .node ms,.agg xs=> .agg (wH ms xs)
 | .node ms,.tup xs=> .tup (wH ms xs)
 | _,x=>x
def wH:List Md→List X→List X
 | m :: ms,x :: xs=>zE m x :: wH ms xs
 | _,xs=>xs
end
def wK (m:Md):XOut→XOut
 | .ret x outs=> .ret (zE m x) outs
 | .pan x outs=> .pan x outs
theorem Q8 (e s:Nat):zE (.own e s) .nil= .own e s 0 none [] false:=by simp only [zE]
theorem Qn (m:Md) (k:Nat):zE m (.par k)= .par k:=by cases m <;> simp only [zE]
theorem Ph (m:Md) (k:RK) (x:D):zE m (.res k x)= .res k x:=by cases m <;> simp only [zE]
theorem Lv:zE .dat .nil= .d (.lst 0 []):=by simp only [zE]
theorem MQ (x:X):zE .k x=x:=by simp only [zE]
theorem OW {α:Type} (c:Enc α) (m:Md) (e:Nat) (cap:Option Nat) (lk:Bool) (l:List α):zE m (zx c e cap lk l)=zx c e cap lk l:=by
 cases m <;> simp only [zx,zE]
theorem Lo (m:Md) (x:D):zE m (.d x)= .d x:=by cases m <;> simp only [zE]
theorem Qe (ms:List Md) (xs:List X):zE (.node ms) (.agg xs)= .agg (wH ms xs):=by simp only [zE]
theorem Ot (ms:List Md) (xs:List X):zE (.node ms) (.tup xs)= .tup (wH ms xs):=by simp only [zE]
theorem SV (ms:List Md):wH ms []=[]:=by cases ms <;> simp only [wH]
theorem VC (xs:List X):wH [] xs=xs:=by simp only [wH]
theorem WX (m:Md) (ms:List Md) (x:X) (xs:List X):wH (m :: ms) (x :: xs)=zE m x :: wH ms xs:=by simp only [wH]
theorem YE (m:Md) (x:X) (outs:List (List D)):wK m (.ret x outs)= .ret (zE m x) outs:=rfl
theorem Yc (m:Md) (x:D) (outs:List (List D)):wK m (.pan x outs)= .pan x outs:=rfl
def mk1:List D→List D
 | [x]=>[x,.bool true]
 | ds=>ds
def sH:List Bool→List (List D)→List (List D)
 | true :: bs,ds :: outs=>mk1 ds :: sH bs outs
 | false :: bs,ds :: outs=>ds :: sH bs outs
 | _,outs=>outs
def ZN (bs:List Bool):XOut→XOut
 | .ret x outs=> .ret x (sH bs outs)
 | .pan x outs=> .pan x outs
theorem XE (bs:List Bool) (x:X) (outs:List (List D)):ZN bs (.ret x outs)= .ret x (sH bs outs):=rfl
theorem Xs (bs:List Bool) (x:D) (outs:List (List D)):ZN bs (.pan x outs)= .pan x outs:=rfl
theorem Vf (bs:List Bool) (ds:List D) (outs:List (List D)):sH (true :: bs) (ds :: outs)=mk1 ds :: sH bs outs:=rfl
theorem UH (bs:List Bool) (ds:List D) (outs:List (List D)):sH (false :: bs) (ds :: outs)=ds :: sH bs outs:=rfl
theorem eg (outs:List (List D)):sH [] outs=outs:=by cases outs <;> rfl
theorem NL (x:D):mk1 [x]=[x,.bool true]:=rfl
theorem N9 (x y:D):mk1 [x,y]=[x,y]:=rfl
def w64 (n:Int):Int:=IntKind.i64.wrap n
theorem PJ (n:Int):IntKind.i64.wrap n=w64 n:=rfl
def yQ:=And.intro XE <| And.intro Xs <| And.intro Vf <| And.intro UH <| And.intro eg <| And.intro NL <| And.intro N9 <| And.intro Q8 <| And.intro MQ <| And.intro @OW <| And.intro Lo <| And.intro Qe <| And.intro Ot <| And.intro SV <| And.intro VC <| And.intro WX <| And.intro YE <| And.intro Yc <| And.intro @Pv <| And.intro M6 <| And.intro Po <| And.intro Qs <| And.intro Pw <| And.intro Ph <| And.intro Qn <| And.intro OA <| And.intro OD <| And.intro Qz <| And.intro Sh <| And.intro Us <| And.intro Xn <| And.intro YQ <| And.intro @Pp <| And.intro @Pf <| And.intro aE <| And.intro @PJ <| And.intro @NJ <| And.intro @NZ <| And.intro @Ww <| And.intro @Pn <| And.intro @VF <| And.intro @Wg <| And.intro @XK <| And.intro @NQ <| And.intro @PT <| And.intro @SI <| And.intro @Nv <| And.intro @SL <| And.intro @Wk <| And.intro @U5 <| And.intro U0 <| And.intro @YC <| And.intro @Ya (And.intro @WS (And.intro @Rr (And.intro @Zh (And.intro @bS @Yd))))
def yN:=And.intro @Option.some_beq_some.{0} <| And.intro @Nat.zero_add <| And.intro @Nat.add_zero <| And.intro @Bool.not_true <| And.intro @Bool.not_false <| And.intro @Bool.and_true <| And.intro @Bool.true_and <| And.intro @Bool.and_false <| And.intro @Bool.false_and <| And.intro @Bool.and_self <| And.intro @Bool.or_false <| And.intro @Bool.false_or <| And.intro @Bool.or_true <| And.intro @Bool.true_or <| And.intro @Bool.or_self <| And.intro @decide_eq_true_eq <| And.intro @Bool.not_eq_true' <| And.intro @Bool.not_eq_eq_eq_not <| And.intro @decide_eq_false_iff_not <| And.intro @ite_not.{1} <| And.intro @ite_self.{1} <| And.intro @List.nil_append.{0} <| And.intro @List.append_nil.{0} <| And.intro @Option.map_some.{0,0} <| And.intro @Option.map_none.{0,0} <| And.intro @List.length_replicate.{0} <| And.intro @Int.natCast_nonneg <| And.intro @and_self <| And.intro @and_true <| And.intro @true_and <| And.intro @Bool.false_eq_true <| And.intro @decide_true <| And.intro @decide_false <| And.intro @List.cons_append.{0} <| And.intro @Int.cast_ofNat_Int <| And.intro @not_true_eq_false <| And.intro @not_false_eq_true <| @eq_self.{1}
structure Hy (E:En) (ps pl:List Nat) (ck:List (Nat×KO)) (rs:List RV) (dd:Option (List Nat×List Nat)) (wk:XOut→XOut) (fl:Nat→Bool):Prop where
 p:E.ps=ps
 l:E.pl=pl
 k:E.ck=ck
 r:E.rs=rs
 d:E.dd=dd
 w:∀ y,E.wk y=some (wk y)
 f:∀ e,E.Γ.fl e=fl e
end Go.Vm
