/- The rules for lists of one kind, bundled. -/
import Derived.Test.YtpjfklhaogdfeaaGreatDoorVmRul
set_option linter.unusedVariables false
set_option linter.unusedSectionVars false
set_option linter.unusedSimpArgs false
set_option linter.defProp false
namespace Go.Vm
def v8:=sO
@[congr] theorem Jm {E:En} {keep:List Nat} {b:Cd} {k:List KJ} {m:Nat} {st st':St} (h:st=st'):gH E keep b k m st=gH E keep b k m st':=by rw [h]
theorem zm (c c':Cd) (h:c=c') {E:En} {k:List KJ} {st:St}:G E c k st=G E c' k st:=by rw [h]
@[congr] theorem Id {E:En} {c c':Cd} {k:List KJ} {st:St} (h:c=c'):G E c k st=G E c' k st:=by rw [h]
section
variable {α:Type} (c:Enc α) (n:Nat) (h:n=c.sz)
theorem PM (l:List α) (m:Nat):n=c.sz→gy (zb c l) (m * n) n=(l[m]?).bind fun x=>some (c.enc x):=by
 intro h
 rw [RL c l m n h]; cases l[m]? <;> rfl
def ou (cells:List D) (o:Nat) (xs:List D):List D:=cells.take o++xs++cells.drop (o+xs.length)
theorem Xp (e:Nat) (cap:Option Nat) (l:List α) (m o:Nat) (xs:List D) (y y':α) (hy:l[m]? =some y) (ho:o+xs.length ≤ c.sz) (hd:c.dec (ou (c.enc y) o xs)=some y'):
  sO (e,c.sz,l.length,cap,zb c l) (m * c.sz+o) xs=some (zY c e cap (l.set m y')):=by
 have hm:m < l.length:=by
  apply Classical.byContradiction
  intro hn
  rw [List.getElem?_eq_none (by omega)] at hy; cases hy
 have hmul:=Nat.mul_le_mul_right c.sz (show m+1 ≤ l.length from hm)
 rw [Nat.succ_mul] at hmul
 have e':=c.dcd _ _ hd
 have e1:zb c l=zb c (l.take m)++(c.enc y++zb c (l.drop (m+1))):=by
  have h1:=oA c hy
  rw [← h1,rL,← qE,List.take_append_drop]
 have e2:zb c (l.set m y')=zb c (l.take m)++(c.enc y'++zb c (l.drop (m+1))):=by
  rw [List.set_eq_take_append_cons_drop,if_pos hm,qE]
  simp [zb]
 have e3:(zb c (l.take m)).length=m * c.sz:=by rw [yM,List.length_take,Nat.min_eq_left (by omega)]
 unfold sO
 simp only
 rw [if_pos (by rw [yM]; omega)]
 simp only [zY,List.length_set,e2,← e',ou]
 congr 1
 congr 1
 have d1:(zb c (l.take m)).drop (m * c.sz+o+xs.length)=[]:=List.drop_eq_nil_of_le (by omega)
 have t1:(zb c (l.take m)).take (m * c.sz+o)=zb c (l.take m):=List.take_of_length_le (by omega)
 rw [e1,List.take_append,List.drop_append,e3,t1,d1]
 have a1:m * c.sz+o - m * c.sz=o:=by omega
 have a2:m * c.sz+o+xs.length - m * c.sz=o+xs.length:=by omega
 rw [a1,a2,List.take_append_of_le_length (by rw [c.len]; omega),List.drop_append_of_le_length (by rw [c.len]; omega)]
 simp only [List.nil_append,List.append_assoc]
theorem KA (e:Nat) (cap:Option Nat) (l:List α) (m o:Nat) (xs:List D):n=c.sz→sO (e,c.sz,l.length,cap,zb c l) (m * n+o) xs=
  if o+xs.length ≤ n then (match l[m]? with
   | some y=>(c.dec (ou (c.enc y) o xs)).elim (v8 (e,c.sz,l.length,cap,zb c l) (m * n+o) xs) fun y'=>some (zY c e cap (l.set m y'))
   | none=>v8 (e,c.sz,l.length,cap,zb c l) (m * n+o) xs) else v8 (e,c.sz,l.length,cap,zb c l) (m * n+o) xs:=by
 intro h
 subst h
 split
 ·rename_i ho
  cases hy:l[m]? with
  | none=>rfl
  | some y=>
    simp only
    cases hd:c.dec (ou (c.enc y) o xs) with
    | none=>rfl
    | some y'=>exact Xp c e cap l m o xs y y' hy ho hd
 ·rfl
theorem ZZ {R:Nat×Nat×Nat×Option Nat×List D} {e:Nat} {cap:Option Nat} {m o:Nat} {xs:List D} {l:List α} (h:l.length ≤ m) (hx:0 < xs.length):v8 (e,c.sz,l.length,cap,zb c l) (m * c.sz+o) xs=none:=by
 unfold v8 sO
 simp only
 rw [if_neg]
 rw [yM]
 have:=Nat.mul_le_mul_right c.sz h
 omega
theorem VK (e:Nat) (cap:Option Nat) (l:List α) (m o:Nat) (xs:List D):n=c.sz→sO (e,c.sz,l.length,cap,zb c l) (m * n+o) xs=
  if o+xs.length ≤ n∧0 < xs.length then (l[m]?).bind fun y=>(c.dec (ou (c.enc y) o xs)).elim (v8 (e,c.sz,l.length,cap,zb c l) (m * n+o) xs) fun y'=>some (zY c e cap (l.set m y'))
  else v8 (e,c.sz,l.length,cap,zb c l) (m * n+o) xs:=by
 intro h
 split
 ·rename_i ho
  rw [KA c n e cap l m o xs h,if_pos ho.1]
  subst h
  cases hy:l[m]? with
  | none=>exact ZZ c (R:=(e,c.sz,l.length,cap,zb c l)) (List.getElem?_eq_none_iff.mp hy) ho.2
  | some y=>rfl
 ·rfl
theorem JL (e:Nat) (cap:Option Nat) (l:List α) (m:Nat) (xs:List D):n=c.sz→sO (e,c.sz,l.length,cap,zb c l) (m * n) xs=
  (c.dec xs).elim (if 0+xs.length ≤ n∧0 < xs.length then (l[m]?).bind fun y=>(c.dec (ou (c.enc y) 0 xs)).elim (v8 (e,c.sz,l.length,cap,zb c l) (m * n+0) xs) fun y'=>some (zY c e cap (l.set m y'))
    else v8 (e,c.sz,l.length,cap,zb c l) (m * n+0) xs) fun x=>(oY l m x).bind fun l'=>some (zY c e cap l'):=by
 intro h
 cases hd:c.dec xs with
 | none=>
   exact VK c n e cap l m 0 xs h
 | some x=>
   subst h
   rw [ZC c e cap l m c.sz xs x rfl hd]
   simp only [Option.elim]
   cases oY l m x <;> rfl
theorem Ku (e:Nat) (cap:Option Nat) (l l':List α) (b:Nat):n=c.sz→
  nY (e,c.sz,l.length,cap,zb c l) e n b (zh c l')=if vm b (l++l').length then some (zY c e none (l++l')) else none:=by
 rintro rfl; exact M9 c e cap l l' c.sz b rfl
theorem Nm (e:Nat) (cap:Option Nat) (l:List α) (k k':IntKind) (lo hi:Int):n=c.sz→oN (e,c.sz,l.length,cap,zb c l) n true true [.d (.int k lo),.d (.int k' hi)]=(cut l lo hi).bind fun l'=>some (zh c l'):=by
 rintro rfl; exact Ot c e c.sz cap l k k' lo hi rfl
theorem Ni (e:Nat) (cap:Option Nat) (l:List α) (k:IntKind) (lo:Int):n=c.sz→oN (e,c.sz,l.length,cap,zb c l) n true false [.d (.int k lo)]=(cut l lo l.length).bind fun l'=>some (zh c l'):=by
 rintro rfl; exact MU c e c.sz cap l k lo rfl
theorem MK (e:Nat) (cap:Option Nat) (l:List α) (k:IntKind) (hi:Int):n=c.sz→oN (e,c.sz,l.length,cap,zb c l) n false true [.d (.int k hi)]=(cut l 0 hi).bind fun l'=>some (zh c l'):=by
 rintro rfl; exact Mn c e c.sz cap l k hi rfl
theorem RY (e:Nat) (cap:Option Nat) (l:List α) (m o:Nat) (xs:List D) (z:Nat) (hz:l.length=z) (h:n=c.sz):sO (e,c.sz,z,cap,zb c l) (m * n+o) xs=
  if o+xs.length ≤ n∧0 < xs.length then (l[m]?).bind fun y=>(c.dec (ou (c.enc y) o xs)).elim (v8 (e,c.sz,l.length,cap,zb c l) (m * n+o) xs) fun y'=>some (zY c e cap (l.set m y'))
  else v8 (e,c.sz,l.length,cap,zb c l) (m * n+o) xs:=hz ▸ VK c n e cap l m o xs h
theorem Km (e:Nat) (cap:Option Nat) (l:List α) (m:Nat) (xs:List D) (z:Nat) (hz:l.length=z) (h:n=c.sz):sO (e,c.sz,z,cap,zb c l) (m * n) xs=
  (c.dec xs).elim (if 0+xs.length ≤ n∧0 < xs.length then (l[m]?).bind fun y=>(c.dec (ou (c.enc y) 0 xs)).elim (v8 (e,c.sz,l.length,cap,zb c l) (m * n+0) xs) fun y'=>some (zY c e cap (l.set m y'))
    else v8 (e,c.sz,l.length,cap,zb c l) (m * n+0) xs) fun x=>(oY l m x).bind fun l'=>some (zY c e cap l'):=hz ▸ JL c n e cap l m xs h
theorem NH (e:Nat) (cap:Option Nat) (l l':List α) (b:Nat) (z:Nat) (hz:l.length=z) (h:n=c.sz):
  nY (e,c.sz,z,cap,zb c l) e n b (zh c l')=if vm b (l++l').length then some (zY c e none (l++l')) else none:=hz ▸ Ku c n e cap l l' b h
theorem MZ (r:Nat×Nat×Nat×Option Nat×List D) (e b:Nat) (l:List α):nY r e n b (lw c l)=nY r e n b (zh c l):=rfl
theorem Lk (e:Nat) (cap:Option Nat) (l:List α) (h':Int) (z:Nat) (hz:l.length=z) (h:n=c.sz):
  cn (e,c.sz,z,cap,zb c l) n h'=if 0 ≤ h'∧h' ≤ l.length then some (zY c e cap (l.take h'.toNat)) else none:=by
 subst hz h; exact MH c e cap l c.sz rfl h'
theorem Ok (e:Nat) (cap:Option Nat) (l:List α) (k k':IntKind) (lo hi:Int) (z:Nat) (hz:l.length=z) (h:n=c.sz):oN (e,c.sz,z,cap,zb c l) n true true [.d (.int k lo),.d (.int k' hi)]=(cut l lo hi).bind fun l'=>some (zh c l'):=hz ▸ Nm c n e cap l k k' lo hi h
theorem On (e:Nat) (cap:Option Nat) (l:List α) (k:IntKind) (lo:Int) (z:Nat) (hz:l.length=z) (h:n=c.sz):oN (e,c.sz,z,cap,zb c l) n true false [.d (.int k lo)]=(cut l lo l.length).bind fun l'=>some (zh c l'):=hz ▸ Ni c n e cap l k lo h
theorem QR (e:Nat) (cap:Option Nat) (l:List α) (k:IntKind) (hi:Int) (z:Nat) (hz:l.length=z) (h:n=c.sz):oN (e,c.sz,z,cap,zb c l) n false true [.d (.int k hi)]=(cut l 0 hi).bind fun l'=>some (zh c l'):=hz ▸ MK c n e cap l k hi h
theorem LO (l:List α) (m o:Nat) (ho:o < c.sz):n=c.sz→(zb c l)[m * n+o]? =(l[m]?).bind fun x=>(c.enc x)[o]? :=by
 rintro rfl; exact ZS c l m o ho
theorem Pa (l:List α):n=c.sz→(zb c l)[0]? =(l[0]?).bind fun x=>(c.enc x)[0]? :=by
 rintro rfl
 have:=ZS c l 0 0 c.pos
 simpa using this
theorem Xz (l:List α) (m:Nat):n=c.sz→(zb c l)[m * n]? =(l[m]?).bind fun x=>(c.enc x)[0]? :=by
 rintro rfl; exact ZS c l m 0 c.pos
end
def jo {α:Type} (c:Enc α) (n:Nat) (h:n=c.sz):=
 And.intro (fun {Γ ob d} l k i=>Kg (Γ:=Γ) (ob:=ob) (d:=d) c l n k i h) <|
 And.intro (fun {Γ ob d} l=>Mq (Γ:=Γ) (ob:=ob) (d:=d) c l) <|
 And.intro (fun {Γ ob d} l k k' lo hi=>Ry (Γ:=Γ) (ob:=ob) (d:=d) c l n k k' lo hi h) <|
 And.intro (fun {Γ ob d} l k lo=>P4 (Γ:=Γ) (ob:=ob) (d:=d) c l n k lo h) <|
 And.intro (fun {Γ ob d} l k hi=>Pd (Γ:=Γ) (ob:=ob) (d:=d) c l n k hi h) <|
 And.intro (Nn c) <| And.intro (Pf c) <| And.intro (JZ c) <| And.intro (JH c) <| And.intro (Qv c) <| And.intro (Oa c) <| And.intro (fun {ob} v e cap l=>US (ob:=ob) c v e cap l) <| And.intro (fun v e e' cap l lk=>UK c v e e' n cap l lk h) <| And.intro (O4 c) <| And.intro (fun {ob d} e cap lk l j=>KE (ob:=ob) (d:=d) c e cap lk l j) <|
 And.intro (fun {ob} m e cap l=>Lc (ob:=ob) c m e cap l) <| And.intro (fun {ob} m e cap l=>Py (ob:=ob) c m e cap l) <|
 And.intro (fun l m=>PM c n l m h) <| And.intro (fun e cap l m xs z hz=>Km c n e cap l m xs z hz h) <| And.intro (fun e cap l l' b z hz=>NH c n e cap l l' b z hz h) <| And.intro (fun r e b l=>MZ c n r e b l) <| And.intro (fun l=>Pa c n l h) <| And.intro (O5 c) <| And.intro (Nd c) <| And.intro (fun e cap l h' z hz=>Lk c n e cap l h' z hz h) <|
 And.intro (fun e cap l k k' lo hi z hz=>Ok c n e cap l k k' lo hi z hz h) <| And.intro (fun e cap l k lo z hz=>On c n e cap l k lo z hz h) <| And.intro (fun e cap l k hi z hz=>QR c n e cap l k hi z hz h) (fun l m=>Xz c n l m h)
def oO {α:Type} (c:Enc α) (s:Nat):Nat→List D→Option (List α)
 | 0,[]=>some []
 | 0,_ :: _=>none
 | n+1,xs=>(c.dec (xs.take s)).bind fun x=>(oO c s n (xs.drop s)).bind fun l=>some (x :: l)
theorem fC {α:Type} (c:Enc α) (s:Nat) (hs:s=c.sz):∀ (n:Nat) (xs:List D) (l:List α),oO c s n xs=some l→xs=zb c l∧n=l.length
 | 0,[],l,h=>by cases h; exact ⟨rfl,rfl⟩
 | 0,_ :: _,l,h=>by cases h
 | n+1,xs,l,h=>by
   simp only [oO] at h
   obtain ⟨x,h1,h⟩:=Option.bind_eq_some_iff.mp h
   obtain ⟨l',h2,h⟩:=Option.bind_eq_some_iff.mp h
   cases h
   obtain ⟨e1,e2⟩:=fC c s hs n _ _ h2
   have e3:=c.dcd _ _ h1
   refine ⟨?_,by simp [e2]⟩
   rw [← List.take_append_drop s xs,e3,e1]
   simp [zb]
theorem VT {α:Type} (c:Enc α):∀ (l:List α),oO c c.sz l.length (zb c l)=some l
 | []=>rfl
 | x :: l=>by
   have h:zb c (x :: l)=c.enc x++zb c l:=by simp [zb]
   have h1:(c.enc x++zb c l).take c.sz=c.enc x:=by rw [List.take_append_of_le_length (by rw [c.len]; exact Nat.le_refl _),List.take_of_length_le (by rw [c.len]; exact Nat.le_refl _)]
   have h2:(c.enc x++zb c l).drop c.sz=zb c l:=by rw [List.drop_append,List.drop_eq_nil_of_le (by rw [c.len]; exact Nat.le_refl _),c.len]; simp
   rw [h,List.length_cons]
   simp only [oO,h1,h2,c.edc,VT c l,Option.bind_some]
def ec {α:Type} (c:Enc α):D→Option (List α)
 | .lst n cs=>oO c c.sz n cs
 | _=>none
theorem Qz {α:Type} {c:Enc α} {d:D} {l:List α} (h:ec c d=some l):d=zh c l:=by
 unfold ec at h
 split at h
 ·obtain ⟨e1,e2⟩:=fC c c.sz rfl _ _ _ h
  rw [e1,e2]; rfl
 ·cases h
theorem mq {α:Type} (c:Enc α) (l:List α):ec c (zh c l)=some l:=VT c l
def Rg {α:Type} (c:Enc α):List D→Option (List α)
 | [d]=>ec c d
 | _=>none
def cL {α:Type} (c:Enc α):Enc (List α) where
 sz:=1
 enc l:=[zh c l]
 dec:=Rg c
 len _:=rfl
 pos:=by decide
 dcd:=by
  intro xs x h
  unfold Rg at h
  split at h
  ·rw [Qz h]
  ·cases h
 edc l:=mq c l
theorem Lj {α:Type} (c:Enc α) (l:List α):(cL c).enc l=[zh c l]:=rfl
theorem MA {α:Type} (c:Enc α) (l:List α):(cL c).dec [zh c l]=some l:=mq c l
theorem MP {α:Type} (c:Enc α) (s:Nat):oO c s 0 []=some []:=rfl
theorem N7 {α:Type} (c:Enc α) (s n:Nat) (xs:List D):oO c s (n+1) xs=(c.dec (xs.take s)).bind fun x=>(oO c s n (xs.drop s)).bind fun l=>some (x :: l):=rfl
theorem Kk {α:Type} (c:Enc α) (e s:Nat) (hs:s=c.sz) (n:Nat) (xs:List D):gp e s n xs=(oO c s n xs).elim (O.row e s n (some n) xs) fun l=>zY c e (some n) l:=by
 cases h:oO c s n xs with
 | none=>rfl
 | some l=>
   obtain ⟨e1,e2⟩:=fC c s hs n xs l h
   subst hs
   simp only [gp,Option.elim,zY,e1,e2]
theorem Ov {α:Type} (c:Enc α) (e s:Nat) (hs:s=c.sz) (zs:List D) (z:α) (hz:c.dec zs=some z) (n cap:Nat):Zv e s n cap zs=zY c e (some cap) (List.replicate n z):=by
 subst hs
 exact ZE c e (some cap) n zs z hz
theorem Tc {α:Type} (c:Enc α) (e s:Nat) (hs:s=c.sz):X.own e s 0 none [] false=zP c e none false []:=by subst hs; rfl
theorem RN {α:Type} (c:Enc α) (e s:Nat) (hs:s=c.sz) (zs:List D) (z:α) (hz:c.dec zs=some z) (n:Nat):bH e s n zs=zY c e none (List.replicate n z):=by
 subst hs
 exact ZE c e none n zs z hz
def zOk (b:Nat) (k:Int):Prop:=0 ≤ k∧k.toNat * b ≤ wF∧k ≤ 9223372036854775807
instance (b:Nat) (k:Int):Decidable (zOk b k):=by unfold zOk; infer_instance
theorem NL {α:Type} (c:Enc α) (e s:Nat) (hs:s=c.sz) (zs:List D) (x:α) (hx:c.dec zs=some x) (id ver b:Nat) (k:Int):
  Tl id ver e s b zs k=if zOk b k then (if k=0 then some (.val .nil []) else some (.val (.row id ver) [(id,⟨ver,zY c e none (List.replicate k.toNat x),false⟩)])) else none:=by
 unfold Tl
 rw [RN c e s hs zs x hx]
 subst hs
 obtain rfl:=c.dcd _ _ hx
 by_cases h:zOk b k
 ·have h':=h
  unfold zOk at h'
  rw [if_pos h,if_pos ⟨h'.1,c.len _,c.pos,h'.2.1,h'.2.2⟩]
 ·rw [if_neg h,if_neg (fun q=>h ⟨q.1,q.2.2.2.1,q.2.2.2.2⟩)]
theorem OD {α:Type} (c:Enc α) (e s:Nat) (hs:s=c.sz) (zs:List D) (x:α) (hx:c.dec zs=some x) (cap:Option Nat) (l:List α) (b:Nat) (k:Int) (z:Nat) (hz:l.length=z):
  iH (e,c.sz,z,cap,zb c l) e s b zs k=if 0 ≤ k∧vm b (l++List.replicate k.toNat x).length then some (zY c e none (l++List.replicate k.toNat x)) else none:=by
 subst hz hs; exact Qi c e cap l c.sz b rfl zs x hx k
theorem LL {α:Type} (c:Enc α) (e s:Nat) (hs:s=c.sz) (zs:List D) (x:α) (hx:c.dec zs=some x) (cap:Option Nat) (l:List α) (lo:Nat) (z:Nat) (hz:l.length=z):
  bD (e,c.sz,z,cap,zb c l) zs lo s=if lo ≤ l.length then some (zY c e cap (l.take lo++List.replicate (l.length - lo) x)) else none:=Lo c e cap l zs x hx lo s hs z hz
def bE {α:Type} (c:Enc α) (e s:Nat) (hs:s=c.sz) (zs:List D) (z:α) (hz:c.dec zs=some z):=And.intro (Tc c e s hs) <| And.intro (Kk c e s hs) <| And.intro (Ov c e s hs zs z hz) <| And.intro (NL c e s hs zs z hz) <| And.intro (LL c e s hs zs z hz) (OD c e s hs zs z hz)
theorem Iv {α β:Type} (a:Int) (X Y N:Option β) (L:Option α) (p:α→Prop) [∀ y,Decidable (p y)] (W V:α→Option β):
  (if a < 1 then X else if 10 < a then Y else L.bind fun y=>if p y then if a.toNat * 1=0 then W y else V y else N)
    =if a < 1 then X else if 10 < a then Y else L.bind fun y=>if p y then V y else N:=by
 by_cases h:a < 1
 ·rw [if_pos h,if_pos h]
 ·have h':¬ a.toNat * 1=0:=by omega
  simp only [h',if_false]
theorem YH (n:Nat):(n:Int).toNat=n:=Int.toNat_natCast n
theorem mG {α:Type} (c:Enc α) (h:∀ x,(c.enc x).all D.flat=true) (fl:TypeId→Bool) (e:Nat) (cap:Option Nat) (lk:Bool) (l:List α):yq fl (zP c e cap lk l)=fl e:=by
 have:(zb c l).all D.flat=true:=by
  unfold zb
  rw [List.all_flatMap]
  simp [h]
 simp only [zP,yq,this,Bool.and_true]
theorem Lu (x:Int):cI.enc x=[.int .i64 x]:=rfl
theorem MV (x:Int):cI.dec [.int .i64 x]=some x:=rfl
theorem NT (x:Int):c8.enc x=[.int .u8 x]:=rfl
theorem MT (x:Int):c8.dec [.int .u8 x]=some x:=rfl
theorem MM (x:Bool):cB.enc x=[.bool x]:=rfl
theorem Ma (x:Bool):cB.dec [.bool x]=some x:=rfl
theorem Ln (x:List UInt8):cS.enc x=[sD x]:=rfl
theorem La (x:List UInt8):cS.dec [sD x]=some x:=rfl
theorem SX (cells:List D) (o:Nat) (xs:List D):ou cells o xs=cells.take o++xs++cells.drop (o+xs.length):=rfl
theorem Wj {α β:Type} (b:β) (f:α→β):(none:Option α).elim b f=b:=rfl
theorem XG {α β:Type} (b:β) (f:α→β) (x:α):(some x).elim b f=f x:=rfl
theorem Sh {α:Type} (a:α) (l r:List α):(a :: l)++r=a :: (l++r):=rfl
theorem Oc {α:Type} (r:List α):[]++r=r:=rfl
theorem YT {α β:Type} (x:α) (f:α→Option β):(some x).bind f=f x:=rfl
theorem YB {α β:Type} (f:α→Option β):(none:Option α).bind f=none:=rfl
theorem WH {α β γ:Type} (x:Option α) (f:α→Option β) (g:β→Option γ):(x.bind f).bind g=x.bind fun y=>(f y).bind g:=Option.bind_assoc ..
theorem oQ {α:Type} (c:Enc α) (k K:Nat) (h:K=k * c.sz) (l:List α):(zb c l)[K]? =(l[k]?).bind fun x=>(c.enc x)[0]? :=by
 subst h; exact Xz c c.sz l k rfl
theorem Mx {α:Type} (c:Enc α) (e:Nat) (cap:Option Nat) (l:List α) (xs:List D) (z:Nat) (hz:l.length=z):sO (e,c.sz,z,cap,zb c l) 0 xs=
  (c.dec xs).elim (v8 (e,c.sz,z,cap,zb c l) 0 xs) fun x=>(oY l 0 x).bind fun l'=>some (zY c e cap l'):=by
 cases hd:c.dec xs with
 | none=>rfl
 | some x=>
   subst hz
   have:=ZC c e cap l 0 c.sz xs x rfl hd
   rw [Nat.zero_mul] at this
   rw [this]
   simp only [Option.elim]
   cases oY l 0 x <;> rfl
theorem Qf {α:Type} (a:α) (l:List α) (x:α):oY (a :: l) 0 x=some (x :: l):=by simp [oY]
def dS {α:Type} (c:Enc α) (h:c.sz=1):=And.intro (Mx c) <| And.intro (@Qf α) <| And.intro (oQ c 1 1 (by rw [h])) <| And.intro (oQ c 2 2 (by rw [h])) <| And.intro (oQ c 3 3 (by rw [h])) <| And.intro (oQ c 4 4 (by rw [h])) (oQ c 5 5 (by rw [h]))
def yv:=And.intro (dS cI rfl) <| And.intro (dS cS rfl) <| And.intro (dS cB rfl) (dS c8 rfl)
def rI:=And.intro (mG cI (fun _=>rfl)) <| And.intro (jo cI 1 rfl) (And.intro Lu MV)
def r8:=And.intro (mG c8 (fun _=>rfl)) <| And.intro (jo c8 1 rfl) (And.intro NT MT)
def rB:=And.intro (mG cB (fun _=>rfl)) <| And.intro (jo cB 1 rfl) (And.intro MM Ma)
theorem PJ {α:Type} (c:Enc α) (fl:TypeId→Bool) (e:Nat) (cap:Option Nat) (lk:Bool) (l:List α):yq fl (zP c e cap lk l)=(fl e&&(zb c l).all D.flat):=by simp only [zP,yq]
def rLI:=And.intro (PJ (cL cI)) <| And.intro (jo (cL cI) 1 rfl) (And.intro (Lj cI) (MA cI))
def rS:=And.intro (mG cS (fun _=>rfl)) <| And.intro (jo cS 1 rfl) (And.intro Ln La)
inductive Res (α:Type) where
 | ok (a:α)
 | pan (x:D)
def Res.on {α β:Type} (r:Res α) (f:α→Option β) (g:D→Option β):Option β:=match r with
 | .ok a=>f a
 | .pan x=>g x
inductive Alt (α β:Type) where
 | a (x:α)
 | b (y:β)
def Alt.on {α β γ:Type} (r:Alt α β) (f:α→Option γ) (g:β→Option γ):Option γ:=match r with
 | .a x=>f x
 | .b y=>g y
theorem Ki {α β γ:Type} (x:α) (f:α→Option γ) (g:β→Option γ):(Alt.a x:Alt α β).on f g=f x:=rfl
theorem LJ {α β γ:Type} (y:β) (f:α→Option γ) (g:β→Option γ):(Alt.b y:Alt α β).on f g=g y:=rfl
theorem TD {α β γ δ:Type} (r:Alt α β) (f:α→Option γ) (g:β→Option γ) (h:γ→Option δ):(r.on f g).bind h=r.on (fun a=>(f a).bind h) (fun x=>(g x).bind h):=by cases r <;> rfl
theorem Lx {α β:Type} (fl:TypeId→Bool) (ob:Nat→Ob) (d:Nat) (ls ms:List Nat) (r:Alt α β) (f:α→Option XOut) (g:β→Option XOut):dR fl ob d ls ms (r.on f g)=r.on (fun a=>dR fl ob d ls ms (f a)) (fun x=>dR fl ob d ls ms (g x)):=by cases r <;> rfl
theorem U1 {α β:Type} {E:En} {k:List KJ} {st:St} (d:Option Nat) (r:Alt α β) (f:α→Option Out) (g:β→Option Out) (l:List SOper):wu E d (r.on f g) l k st=r.on (fun a=>wu E d (f a) l k st) (fun x=>wu E d (g x) l k st):=by cases r <;> rfl
theorem VC {α β:Type} {E:En} {k:List KJ} {st:St} (v:List Nat) (d:Option Nat) (op:SOp) (r:Alt α β) (f:α→Option Out) (g:β→Option Out) (l:List SOper):
  yi E v d op (r.on f g) l k st=r.on (fun a=>yi E v d op (f a) l k st) (fun x=>yi E v d op (g x) l k st):=by cases r <;> rfl
theorem Xs {α β:Type} {E:En} {k:List KJ} {st:St} (v fb:List Nat) (fl:Bool) (wt:List Nat) (d:Option Nat) (op:SOp) (r:Alt α β) (f:α→Option Out) (g:β→Option Out) (l:List SOper):
  xx E v fb fl wt d op (r.on f g) l k st=r.on (fun a=>xx E v fb fl wt d op (f a) l k st) (fun x=>xx E v fb fl wt d op (g x) l k st):=by cases r <;> rfl
theorem L7 {α β:Type} (a:α) (f:α→Option β) (g:D→Option β):(Res.ok a).on f g=f a:=rfl
theorem MI {α β:Type} (x:D) (f:α→Option β) (g:D→Option β):(Res.pan x:Res α).on f g=g x:=rfl
theorem QP {α β γ:Type} (r:Res α) (f:α→Option β) (g:D→Option β) (h:β→Option γ):(r.on f g).bind h=r.on (fun a=>(f a).bind h) (fun x=>(g x).bind h):=by cases r <;> rfl
theorem KN {α:Type} (fl:TypeId→Bool) (ob:Nat→Ob) (d:Nat) (ls ms:List Nat) (r:Res α) (f:α→Option XOut) (g:D→Option XOut):dR fl ob d ls ms (r.on f g)=r.on (fun a=>dR fl ob d ls ms (f a)) (fun x=>dR fl ob d ls ms (g x)):=by cases r <;> rfl
theorem QN {α:Type} {E:En} {k:List KJ} {st:St} (d:Option Nat) (r:Res α) (f:α→Option Out) (g:D→Option Out) (l:List SOper):wu E d (r.on f g) l k st=r.on (fun a=>wu E d (f a) l k st) (fun x=>wu E d (g x) l k st):=by cases r <;> rfl
theorem SY {α:Type} {E:En} {k:List KJ} {st:St} (v fb:List Nat) (fl:Bool) (wt:List Nat) (d:Option Nat) (op:SOp) (r:Res α) (f:α→Option Out) (g:D→Option Out) (l:List SOper):
  xx E v fb fl wt d op (r.on f g) l k st=r.on (fun a=>xx E v fb fl wt d op (f a) l k st) (fun x=>xx E v fb fl wt d op (g x) l k st):=by cases r <;> rfl
theorem Tf {α:Type} {E:En} {k:List KJ} {st:St} (v:List Nat) (d:Option Nat) (op:SOp) (r:Res α) (f:α→Option Out) (g:D→Option Out) (l:List SOper):
  yi E v d op (r.on f g) l k st=r.on (fun a=>yi E v d op (f a) l k st) (fun x=>yi E v d op (g x) l k st):=by cases r <;> rfl
mutual
def ncX:X→X
 | .own e s n _ cells lk=> .own e s n none cells lk
 | .box xs=> .box (vA xs)
 | .agg xs=> .agg (vA xs)
 | .tup xs=> .tup (vA xs)
 | .d x=> .d x
 | .nil=> .nil
 | .par k=> .par k
 | .res k x=> .res k x
def vA:List X→List X
 | []=>[]
 | x :: xs=>ncX x :: vA xs
end
def nocap:XOut→XOut
 | .ret x outs=> .ret (ncX x) outs
 | .pan x outs=> .pan x outs
theorem NI {α:Type} (c:Enc α) (e:Nat) (cap:Option Nat) (lk:Bool) (l:List α):ncX (zP c e cap lk l)=zP c e none lk l:=by simp only [zP,ncX]
theorem JK (x:D):ncX (.d x)= .d x:=by simp only [ncX]
theorem Mk:ncX .nil= .nil:=by simp only [ncX]
theorem NZ (k:Nat):ncX (.par k)= .par k:=by simp only [ncX]
theorem OP (k:RK) (x:D):ncX (.res k x)= .res k x:=by simp only [ncX]
theorem Mm (xs:List X):ncX (.box xs)= .box (vA xs):=by simp only [ncX]
theorem M3 (xs:List X):ncX (.agg xs)= .agg (vA xs):=by simp only [ncX]
theorem OM (xs:List X):ncX (.tup xs)= .tup (vA xs):=by simp only [ncX]
theorem Oh:vA []=[]:=by simp only [vA]
theorem TF (x:X) (xs:List X):vA (x :: xs)=ncX x :: vA xs:=by simp only [vA]
theorem Vp (x:X) (outs:List (List D)):nocap (.ret x outs)= .ret (ncX x) outs:=rfl
theorem WQ (x:D) (outs:List (List D)):nocap (.pan x outs)= .pan x outs:=rfl
inductive Md where
 | k
 | own (e s:Nat)
 | node (l:List Md)
 | dat
mutual
def zI:Md→X→X
 | .own e s,.nil=> .own e s 0 none [] false
 | .dat,.nil=> .d (.lst 0 [])
 | .node ms,.agg xs=> .agg (wj ms xs)
 | .node ms,.tup xs=> .tup (wj ms xs)
 | _,x=>x
def wj:List Md→List X→List X
 | m :: ms,x :: xs=>zI m x :: wj ms xs
 | _,xs=>xs
end
def pm (m:Md):XOut→XOut
 | .ret x outs=> .ret (zI m x) outs
 | .pan x outs=> .pan x outs
theorem Nj (e s:Nat):zI (.own e s) .nil= .own e s 0 none [] false:=by simp only [zI]
theorem NC (m:Md) (k:Nat):zI m (.par k)= .par k:=by cases m <;> simp only [zI]
theorem OR (m:Md) (k:RK) (x:D):zI m (.res k x)= .res k x:=by cases m <;> simp only [zI]
theorem Ie:zI .dat .nil= .d (.lst 0 []):=by simp only [zI]
theorem Jr (x:X):zI .k x=x:=by simp only [zI]
theorem Ml {α:Type} (c:Enc α) (m:Md) (e:Nat) (cap:Option Nat) (lk:Bool) (l:List α):zI m (zP c e cap lk l)=zP c e cap lk l:=by
 cases m <;> simp only [zP,zI]
theorem J6 (m:Md) (x:D):zI m (.d x)= .d x:=by cases m <;> simp only [zI]
theorem Mb (ms:List Md) (xs:List X):zI (.node ms) (.agg xs)= .agg (wj ms xs):=by simp only [zI]
theorem NB (ms:List Md) (xs:List X):zI (.node ms) (.tup xs)= .tup (wj ms xs):=by simp only [zI]
theorem QW (ms:List Md):wj ms []=[]:=by cases ms <;> simp only [wj]
theorem U8 (xs:List X):wj [] xs=xs:=by simp only [wj]
theorem Tg (m:Md) (ms:List Md) (x:X) (xs:List X):wj (m :: ms) (x :: xs)=zI m x :: wj ms xs:=by simp only [wj]
theorem W9 (m:Md) (x:X) (outs:List (List D)):pm m (.ret x outs)= .ret (zI m x) outs:=rfl
theorem WO (m:Md) (x:D) (outs:List (List D)):pm m (.pan x outs)= .pan x outs:=rfl
def mk1:List D→List D
 | [x]=>[x,.bool true]
 | ds=>ds
def sZ:List Bool→List (List D)→List (List D)
 | true :: bs,ds :: outs=>mk1 ds :: sZ bs outs
 | false :: bs,ds :: outs=>ds :: sZ bs outs
 | _,outs=>outs
def Yf (bs:List Bool):XOut→XOut
 | .ret x outs=> .ret x (sZ bs outs)
 | .pan x outs=> .pan x outs
theorem XP (bs:List Bool) (x:X) (outs:List (List D)):Yf bs (.ret x outs)= .ret x (sZ bs outs):=rfl
theorem VE (bs:List Bool) (x:D) (outs:List (List D)):Yf bs (.pan x outs)= .pan x outs:=rfl
theorem V9 (bs:List Bool) (ds:List D) (outs:List (List D)):sZ (true :: bs) (ds :: outs)=mk1 ds :: sZ bs outs:=rfl
theorem Sv (bs:List Bool) (ds:List D) (outs:List (List D)):sZ (false :: bs) (ds :: outs)=ds :: sZ bs outs:=rfl
theorem bA (outs:List (List D)):sZ [] outs=outs:=by cases outs <;> rfl
theorem Ks (x:D):mk1 [x]=[x,.bool true]:=rfl
theorem L9 (x y:D):mk1 [x,y]=[x,y]:=rfl
def w64 (n:Int):Int:=IntKind.i64.wrap n
theorem Ny (n:Int):IntKind.i64.wrap n=w64 n:=rfl
def yr:=And.intro XP <| And.intro VE <| And.intro V9 <| And.intro Sv <| And.intro bA <| And.intro Ks <| And.intro L9 <| And.intro Nj <| And.intro Jr <| And.intro @Ml <| And.intro J6 <| And.intro Mb <| And.intro NB <| And.intro QW <| And.intro U8 <| And.intro Tg <| And.intro W9 <| And.intro WO <| And.intro @NI <| And.intro JK <| And.intro Mk <| And.intro NZ <| And.intro OP <| And.intro OR <| And.intro NC <| And.intro Mm <| And.intro M3 <| And.intro OM <| And.intro Oh <| And.intro TF <| And.intro Vp <| And.intro WQ <| And.intro @MP <| And.intro @N7 <| And.intro YH <| And.intro @Ny <| And.intro @Ki <| And.intro @LJ <| And.intro @TD <| And.intro @Lx <| And.intro @U1 <| And.intro @VC <| And.intro @Xs <| And.intro @L7 <| And.intro @MI <| And.intro @QP <| And.intro @KN <| And.intro @QN <| And.intro @Tf <| And.intro @SY <| And.intro SX <| And.intro @Wj <| And.intro @XG (And.intro @Sh (And.intro @Oc (And.intro @YT (And.intro @YB @WH))))
def yp:=And.intro @Option.some_beq_some.{0} <| And.intro @Nat.zero_add <| And.intro @Nat.add_zero <| And.intro @Bool.not_true <| And.intro @Bool.not_false <| And.intro @Bool.and_true <| And.intro @Bool.true_and <| And.intro @Bool.and_false <| And.intro @Bool.false_and <| And.intro @Bool.and_self <| And.intro @Bool.or_false <| And.intro @Bool.false_or <| And.intro @Bool.or_true <| And.intro @Bool.true_or <| And.intro @Bool.or_self <| And.intro @decide_eq_true_eq <| And.intro @Bool.not_eq_true' <| And.intro @Bool.not_eq_eq_eq_not <| And.intro @decide_eq_false_iff_not <| And.intro @ite_not.{1} <| And.intro @ite_self.{1} <| And.intro @List.nil_append.{0} <| And.intro @List.append_nil.{0} <| And.intro @Option.map_some.{0,0} <| And.intro @Option.map_none.{0,0} <| And.intro @List.length_replicate.{0} <| And.intro @Int.natCast_nonneg <| And.intro @and_self <| And.intro @and_true <| And.intro @true_and <| And.intro @Bool.false_eq_true <| And.intro @decide_true <| And.intro @decide_false <| And.intro @List.cons_append.{0} <| And.intro @Int.cast_ofNat_Int <| And.intro @not_true_eq_false <| And.intro @not_false_eq_true <| @eq_self.{1}
structure Hy (E:En) (ps pl:List Nat) (ck:List (Nat×KO)) (rs:List RV) (dd:Option (List Nat×List Nat)) (wk:XOut→XOut) (fl:Nat→Bool):Prop where
 p:E.ps=ps
 l:E.pl=pl
 k:E.ck=ck
 r:E.rs=rs
 d:E.dd=dd
 w:∀ y,E.wk y=some (wk y)
 f:∀ e,E.Γ.fl e=fl e
end Go.Vm
