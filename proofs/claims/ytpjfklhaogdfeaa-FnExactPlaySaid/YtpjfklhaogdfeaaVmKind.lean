/- The rules for lists of one kind, bundled. -/
import Derived.Test.YtpjfklhaogdfeaaVmRul
set_option linter.unusedVariables false
set_option linter.unusedSectionVars false
set_option linter.unusedSimpArgs false
set_option linter.defProp false
namespace Go.Vm
def u7:=rK
@[congr] theorem IJ {E:En} {keep:List Nat} {b:Cd} {k:List KJ} {m:Nat} {st st':St} (h:st=st'):gH E keep b k m st=gH E keep b k m st':=by rw [h]
theorem zj (c c':Cd) (h:c=c') {E:En} {k:List KJ} {st:St}:G E c k st=G E c' k st:=by rw [h]
@[congr] theorem HN {E:En} {c c':Cd} {k:List KJ} {st:St} (h:c=c'):G E c k st=G E c' k st:=by rw [h]
section
variable {α:Type} (c:Enc α) (n:Nat) (h:n=c.sz)
theorem Nl (l:List α) (m:Nat):n=c.sz→eP (zh c l) (m * n) n=(l[m]?).bind fun x=>some (c.enc x):=by
 intro h
 rw [NO c l m n h]; cases l[m]? <;> rfl
def n3 (cells:List D) (o:Nat) (xs:List D):List D:=cells.take o++xs++cells.drop (o+xs.length)
theorem WA (e:Nat) (cap:Option Nat) (l:List α) (m o:Nat) (xs:List D) (y y':α) (hy:l[m]? =some y) (ho:o+xs.length ≤ c.sz) (hd:c.dec (n3 (c.enc y) o xs)=some y'):
  rK (e,c.sz,l.length,cap,zh c l) (m * c.sz+o) xs=some (yl c e cap (l.set m y')):=by
 have hm:m < l.length:=by
  apply Classical.byContradiction
  intro hn
  rw [List.getElem?_eq_none (by omega)] at hy; cases hy
 have hmul:=Nat.mul_le_mul_right c.sz (show m+1 ≤ l.length from hm)
 rw [Nat.succ_mul] at hmul
 have e':=c.dcd _ _ hd
 have e1:zh c l=zh c (l.take m)++(c.enc y++zh c (l.drop (m+1))):=by
  have h1:=nQ c hy
  rw [← h1,ph,← p8,List.take_append_drop]
 have e2:zh c (l.set m y')=zh c (l.take m)++(c.enc y'++zh c (l.drop (m+1))):=by
  rw [List.set_eq_take_append_cons_drop,if_pos hm,p8]
  simp [zh]
 have e3:(zh c (l.take m)).length=m * c.sz:=by rw [xd,List.length_take,Nat.min_eq_left (by omega)]
 unfold rK
 simp only
 rw [if_pos (by rw [xd]; omega)]
 simp only [yl,List.length_set,e2,← e',n3]
 congr 1
 congr 1
 have d1:(zh c (l.take m)).drop (m * c.sz+o+xs.length)=[]:=List.drop_eq_nil_of_le (by omega)
 have t1:(zh c (l.take m)).take (m * c.sz+o)=zh c (l.take m):=List.take_of_length_le (by omega)
 rw [e1,List.take_append,List.drop_append,e3,t1,d1]
 have a1:m * c.sz+o - m * c.sz=o:=by omega
 have a2:m * c.sz+o+xs.length - m * c.sz=o+xs.length:=by omega
 rw [a1,a2,List.take_append_of_le_length (by rw [c.len]; omega),List.drop_append_of_le_length (by rw [c.len]; omega)]
 simp only [List.nil_append,List.append_assoc]
theorem Ju (e:Nat) (cap:Option Nat) (l:List α) (m o:Nat) (xs:List D):n=c.sz→rK (e,c.sz,l.length,cap,zh c l) (m * n+o) xs=
  if o+xs.length ≤ n then (match l[m]? with
   | some y=>(c.dec (n3 (c.enc y) o xs)).elim (u7 (e,c.sz,l.length,cap,zh c l) (m * n+o) xs) fun y'=>some (yl c e cap (l.set m y'))
   | none=>u7 (e,c.sz,l.length,cap,zh c l) (m * n+o) xs) else u7 (e,c.sz,l.length,cap,zh c l) (m * n+o) xs:=by
 intro h
 subst h
 split
 ·rename_i ho
  cases hy:l[m]? with
  | none=>rfl
  | some y=>
    simp only
    cases hd:c.dec (n3 (c.enc y) o xs) with
    | none=>rfl
    | some y'=>exact WA c e cap l m o xs y y' hy ho hd
 ·rfl
theorem WT {R:Nat×Nat×Nat×Option Nat×List D} {e:Nat} {cap:Option Nat} {m o:Nat} {xs:List D} {l:List α} (h:l.length ≤ m) (hx:0 < xs.length):u7 (e,c.sz,l.length,cap,zh c l) (m * c.sz+o) xs=none:=by
 unfold u7 rK
 simp only
 rw [if_neg]
 rw [xd]
 have:=Nat.mul_le_mul_right c.sz h
 omega
theorem V9 (e:Nat) (cap:Option Nat) (l:List α) (m o:Nat) (xs:List D):n=c.sz→rK (e,c.sz,l.length,cap,zh c l) (m * n+o) xs=
  if o+xs.length ≤ n∧0 < xs.length then (l[m]?).bind fun y=>(c.dec (n3 (c.enc y) o xs)).elim (u7 (e,c.sz,l.length,cap,zh c l) (m * n+o) xs) fun y'=>some (yl c e cap (l.set m y'))
  else u7 (e,c.sz,l.length,cap,zh c l) (m * n+o) xs:=by
 intro h
 split
 ·rename_i ho
  rw [Ju c n e cap l m o xs h,if_pos ho.1]
  subst h
  cases hy:l[m]? with
  | none=>exact WT c (R:=(e,c.sz,l.length,cap,zh c l)) (List.getElem?_eq_none_iff.mp hy) ho.2
  | some y=>rfl
 ·rfl
theorem Iy (e:Nat) (cap:Option Nat) (l:List α) (m:Nat) (xs:List D):n=c.sz→rK (e,c.sz,l.length,cap,zh c l) (m * n) xs=
  (c.dec xs).elim (if 0+xs.length ≤ n∧0 < xs.length then (l[m]?).bind fun y=>(c.dec (n3 (c.enc y) 0 xs)).elim (u7 (e,c.sz,l.length,cap,zh c l) (m * n+0) xs) fun y'=>some (yl c e cap (l.set m y'))
    else u7 (e,c.sz,l.length,cap,zh c l) (m * n+0) xs) fun x=>(oM l m x).bind fun l'=>some (yl c e cap l'):=by
 intro h
 cases hd:c.dec xs with
 | none=>
   exact V9 c n e cap l m 0 xs h
 | some x=>
   subst h
   rw [YT c e cap l m c.sz xs x rfl hd]
   simp only [Option.elim]
   cases oM l m x <;> rfl
theorem Jr (e:Nat) (cap:Option Nat) (l l':List α) (b:Nat):n=c.sz→
  lr (e,c.sz,l.length,cap,zh c l) e n b (zb c l')=if ub b (l++l').length then some (yl c e none (l++l')) else none:=by
 rintro rfl; exact ME c e cap l l' c.sz b rfl
theorem LP (e:Nat) (cap:Option Nat) (l:List α) (k k':IntKind) (lo hi:Int):n=c.sz→mj (e,c.sz,l.length,cap,zh c l) n true true [.d (.int k lo),.d (.int k' hi)]=(cut l lo hi).bind fun l'=>some (zb c l'):=by
 rintro rfl; exact Mf c e c.sz cap l k k' lo hi rfl
theorem LQ (e:Nat) (cap:Option Nat) (l:List α) (k:IntKind) (lo:Int):n=c.sz→mj (e,c.sz,l.length,cap,zh c l) n true false [.d (.int k lo)]=(cut l lo l.length).bind fun l'=>some (zb c l'):=by
 rintro rfl; exact KS c e c.sz cap l k lo rfl
theorem MY (e:Nat) (cap:Option Nat) (l:List α) (k:IntKind) (hi:Int):n=c.sz→mj (e,c.sz,l.length,cap,zh c l) n false true [.d (.int k hi)]=(cut l 0 hi).bind fun l'=>some (zb c l'):=by
 rintro rfl; exact Mu c e c.sz cap l k hi rfl
theorem xu (e:Nat) (cap:Option Nat) (l:List α) (m o:Nat) (xs:List D) (z:Nat) (hz:l.length=z) (h:n=c.sz):rK (e,c.sz,z,cap,zh c l) (m * n+o) xs=
  if o+xs.length ≤ n∧0 < xs.length then (l[m]?).bind fun y=>(c.dec (n3 (c.enc y) o xs)).elim (u7 (e,c.sz,l.length,cap,zh c l) (m * n+o) xs) fun y'=>some (yl c e cap (l.set m y'))
  else u7 (e,c.sz,l.length,cap,zh c l) (m * n+o) xs:=hz ▸ V9 c n e cap l m o xs h
theorem Jm (e:Nat) (cap:Option Nat) (l:List α) (m:Nat) (xs:List D) (z:Nat) (hz:l.length=z) (h:n=c.sz):rK (e,c.sz,z,cap,zh c l) (m * n) xs=
  (c.dec xs).elim (if 0+xs.length ≤ n∧0 < xs.length then (l[m]?).bind fun y=>(c.dec (n3 (c.enc y) 0 xs)).elim (u7 (e,c.sz,l.length,cap,zh c l) (m * n+0) xs) fun y'=>some (yl c e cap (l.set m y'))
    else u7 (e,c.sz,l.length,cap,zh c l) (m * n+0) xs) fun x=>(oM l m x).bind fun l'=>some (yl c e cap l'):=hz ▸ Iy c n e cap l m xs h
theorem KK (e:Nat) (cap:Option Nat) (l l':List α) (b:Nat) (z:Nat) (hz:l.length=z) (h:n=c.sz):
  lr (e,c.sz,z,cap,zh c l) e n b (zb c l')=if ub b (l++l').length then some (yl c e none (l++l')) else none:=hz ▸ Jr c n e cap l l' b h
theorem K9 (r:Nat×Nat×Nat×Option Nat×List D) (e b:Nat) (l:List α):lr r e n b (kj c l)=lr r e n b (zb c l):=rfl
theorem Kx (e:Nat) (cap:Option Nat) (l:List α) (h':Int) (z:Nat) (hz:l.length=z) (h:n=c.sz):
  Zy (e,c.sz,z,cap,zh c l) n h'=if 0 ≤ h'∧h' ≤ l.length then some (yl c e cap (l.take h'.toNat)) else none:=by
 subst hz h; exact NY c e cap l c.sz rfl h'
theorem P8 (e:Nat) (cap:Option Nat) (l:List α) (k k':IntKind) (lo hi:Int) (z:Nat) (hz:l.length=z) (h:n=c.sz):mj (e,c.sz,z,cap,zh c l) n true true [.d (.int k lo),.d (.int k' hi)]=(cut l lo hi).bind fun l'=>some (zb c l'):=hz ▸ LP c n e cap l k k' lo hi h
theorem Ou (e:Nat) (cap:Option Nat) (l:List α) (k:IntKind) (lo:Int) (z:Nat) (hz:l.length=z) (h:n=c.sz):mj (e,c.sz,z,cap,zh c l) n true false [.d (.int k lo)]=(cut l lo l.length).bind fun l'=>some (zb c l'):=hz ▸ LQ c n e cap l k lo h
theorem OT (e:Nat) (cap:Option Nat) (l:List α) (k:IntKind) (hi:Int) (z:Nat) (hz:l.length=z) (h:n=c.sz):mj (e,c.sz,z,cap,zh c l) n false true [.d (.int k hi)]=(cut l 0 hi).bind fun l'=>some (zb c l'):=hz ▸ MY c n e cap l k hi h
theorem vr (l:List α) (m o:Nat) (ho:o < c.sz):n=c.sz→(zh c l)[m * n+o]? =(l[m]?).bind fun x=>(c.enc x)[o]? :=by
 rintro rfl; exact X2 c l m o ho
theorem PH (l:List α):n=c.sz→(zh c l)[0]? =(l[0]?).bind fun x=>(c.enc x)[0]? :=by
 rintro rfl
 have:=X2 c l 0 0 c.pos
 simpa using this
theorem V2 (l:List α) (m:Nat):n=c.sz→(zh c l)[m * n]? =(l[m]?).bind fun x=>(c.enc x)[0]? :=by
 rintro rfl; exact X2 c l m 0 c.pos
end
def pD {α:Type} (c:Enc α) (n:Nat) (h:n=c.sz):=
 And.intro (fun {Γ ob d} l k i=>JV (Γ:=Γ) (ob:=ob) (d:=d) c l n k i h) <|
 And.intro (fun {Γ ob d} l=>Ku (Γ:=Γ) (ob:=ob) (d:=d) c l) <|
 And.intro (fun {Γ ob d} l k k' lo hi=>PM (Γ:=Γ) (ob:=ob) (d:=d) c l n k k' lo hi h) <|
 And.intro (fun {Γ ob d} l k lo=>OO (Γ:=Γ) (ob:=ob) (d:=d) c l n k lo h) <|
 And.intro (fun {Γ ob d} l k hi=>ND (Γ:=Γ) (ob:=ob) (d:=d) c l n k hi h) <|
 And.intro (Kg c) <| And.intro (OX c) <| And.intro (Hq c) <| And.intro (Ha c) <| And.intro (Ow c) <| And.intro (NR c) <| And.intro (fun {ob} v e cap l=>Qi (ob:=ob) c v e cap l) <| And.intro (fun v e e' cap l lk=>QE c v e e' n cap l lk h) <| And.intro (Mh c) <| And.intro (fun {ob d} e cap lk l j=>Ic (ob:=ob) (d:=d) c e cap lk l j) <|
 And.intro (fun {ob} m e cap l=>M4 (ob:=ob) c m e cap l) <| And.intro (fun {ob} m e cap l=>O0 (ob:=ob) c m e cap l) <|
 And.intro (fun l m=>Nl c n l m h) <| And.intro (fun e cap l m xs z hz=>Jm c n e cap l m xs z hz h) <| And.intro (fun e cap l l' b z hz=>KK c n e cap l l' b z hz h) <| And.intro (fun r e b l=>K9 c n r e b l) <| And.intro (fun l=>PH c n l h) <| And.intro (M0 c) <| And.intro (Kw c) <| And.intro (fun e cap l h' z hz=>Kx c n e cap l h' z hz h) <|
 And.intro (fun e cap l k k' lo hi z hz=>P8 c n e cap l k k' lo hi z hz h) <| And.intro (fun e cap l k lo z hz=>Ou c n e cap l k lo z hz h) <| And.intro (fun e cap l k hi z hz=>OT c n e cap l k hi z hz h) (fun l m=>V2 c n l m h)
def mN {α:Type} (c:Enc α) (s:Nat):Nat→List D→Option (List α)
 | 0,[]=>some []
 | 0,_ :: _=>none
 | n+1,xs=>(c.dec (xs.take s)).bind fun x=>(mN c s n (xs.drop s)).bind fun l=>some (x :: l)
theorem dS {α:Type} (c:Enc α) (s:Nat) (hs:s=c.sz):∀ (n:Nat) (xs:List D) (l:List α),mN c s n xs=some l→xs=zh c l∧n=l.length
 | 0,[],l,h=>by cases h; exact ⟨rfl,rfl⟩
 | 0,_ :: _,l,h=>by cases h
 | n+1,xs,l,h=>by
   simp only [mN] at h
   obtain ⟨x,h1,h⟩:=Option.bind_eq_some_iff.mp h
   obtain ⟨l',h2,h⟩:=Option.bind_eq_some_iff.mp h
   cases h
   obtain ⟨e1,e2⟩:=dS c s hs n _ _ h2
   have e3:=c.dcd _ _ h1
   refine ⟨?_,by simp [e2]⟩
   rw [← List.take_append_drop s xs,e3,e1]
   simp [zh]
theorem VU {α:Type} (c:Enc α):∀ (l:List α),mN c c.sz l.length (zh c l)=some l
 | []=>rfl
 | x :: l=>by
   have h:zh c (x :: l)=c.enc x++zh c l:=by simp [zh]
   have h1:(c.enc x++zh c l).take c.sz=c.enc x:=by rw [List.take_append_of_le_length (by rw [c.len]; exact Nat.le_refl _),List.take_of_length_le (by rw [c.len]; exact Nat.le_refl _)]
   have h2:(c.enc x++zh c l).drop c.sz=zh c l:=by rw [List.drop_append,List.drop_eq_nil_of_le (by rw [c.len]; exact Nat.le_refl _),c.len]; simp
   rw [h,List.length_cons]
   simp only [mN,h1,h2,c.edc,VU c l,Option.bind_some]
def mJ {α:Type} (c:Enc α):D→Option (List α)
 | .lst n cs=>mN c c.sz n cs
 | _=>none
theorem md {α:Type} {c:Enc α} {d:D} {l:List α} (h:mJ c d=some l):d=zb c l:=by
 unfold mJ at h
 split at h
 ·obtain ⟨e1,e2⟩:=dS c c.sz rfl _ _ _ h
  rw [e1,e2]; rfl
 ·cases h
theorem ov {α:Type} (c:Enc α) (l:List α):mJ c (zb c l)=some l:=VU c l
def QZ {α:Type} (c:Enc α):List D→Option (List α)
 | [d]=>mJ c d
 | _=>none
def cL {α:Type} (c:Enc α):Enc (List α) where
 sz:=1
 enc l:=[zb c l]
 dec:=QZ c
 len _:=rfl
 pos:=by decide
 dcd:=by
  intro xs x h
  unfold QZ at h
  split at h
  ·rw [md h]
  ·cases h
 edc l:=ov c l
theorem MA {α:Type} (c:Enc α) (l:List α):(cL c).enc l=[zb c l]:=rfl
theorem Mk {α:Type} (c:Enc α) (l:List α):(cL c).dec [zb c l]=some l:=ov c l
theorem KN {α:Type} (c:Enc α) (s:Nat):mN c s 0 []=some []:=rfl
theorem LG {α:Type} (c:Enc α) (s n:Nat) (xs:List D):mN c s (n+1) xs=(c.dec (xs.take s)).bind fun x=>(mN c s n (xs.drop s)).bind fun l=>some (x :: l):=rfl
theorem J5 {α:Type} (c:Enc α) (e s:Nat) (hs:s=c.sz) (n:Nat) (xs:List D):eU e s n xs=(mN c s n xs).elim (O.row e s n (some n) xs) fun l=>yl c e (some n) l:=by
 cases h:mN c s n xs with
 | none=>rfl
 | some l=>
   obtain ⟨e1,e2⟩:=dS c s hs n xs l h
   subst hs
   simp only [eU,Option.elim,yl,e1,e2]
theorem MW {α:Type} (c:Enc α) (e s:Nat) (hs:s=c.sz) (zs:List D) (z:α) (hz:c.dec zs=some z) (n cap:Nat):YS e s n cap zs=yl c e (some cap) (List.replicate n z):=by
 subst hs
 exact Y2 c e (some cap) n zs z hz
theorem ST {α:Type} (c:Enc α) (e s:Nat) (hs:s=c.sz):X.own e s 0 none [] false=ye c e none false []:=by subst hs; rfl
theorem NB {α:Type} (c:Enc α) (e s:Nat) (hs:s=c.sz) (zs:List D) (z:α) (hz:c.dec zs=some z) (n:Nat):al e s n zs=yl c e none (List.replicate n z):=by
 subst hs
 exact Y2 c e none n zs z hz
def zOk (b:Nat) (k:Int):Prop:=0 ≤ k∧k.toNat * b ≤ va∧k ≤ 9223372036854775807
instance (b:Nat) (k:Int):Decidable (zOk b k):=by unfold zOk; infer_instance
theorem N5 {α:Type} (c:Enc α) (e s:Nat) (hs:s=c.sz) (zs:List D) (x:α) (hx:c.dec zs=some x) (id ver b:Nat) (k:Int):
  QN id ver e s b zs k=if zOk b k then (if k=0 then some (.val .nil []) else some (.val (.row id ver) [(id,⟨ver,yl c e none (List.replicate k.toNat x),false⟩)])) else none:=by
 unfold QN
 rw [NB c e s hs zs x hx]
 subst hs
 obtain rfl:=c.dcd _ _ hx
 by_cases h:zOk b k
 ·have h':=h
  unfold zOk at h'
  rw [if_pos h,if_pos ⟨h'.1,c.len _,c.pos,h'.2.1,h'.2.2⟩]
 ·rw [if_neg h,if_neg (fun q=>h ⟨q.1,q.2.2.2.1,q.2.2.2.2⟩)]
theorem Kz {α:Type} (c:Enc α) (e s:Nat) (hs:s=c.sz) (zs:List D) (x:α) (hx:c.dec zs=some x) (cap:Option Nat) (l:List α) (b:Nat) (k:Int) (z:Nat) (hz:l.length=z):
  eh (e,c.sz,z,cap,zh c l) e s b zs k=if 0 ≤ k∧ub b (l++List.replicate k.toNat x).length then some (yl c e none (l++List.replicate k.toNat x)) else none:=by
 subst hz hs; exact NT c e cap l c.sz b rfl zs x hx k
theorem Jt {α:Type} (c:Enc α) (e s:Nat) (hs:s=c.sz) (zs:List D) (x:α) (hx:c.dec zs=some x) (cap:Option Nat) (l:List α) (lo:Nat) (z:Nat) (hz:l.length=z):
  aA (e,c.sz,z,cap,zh c l) zs lo s=if lo ≤ l.length then some (yl c e cap (l.take lo++List.replicate (l.length - lo) x)) else none:=KX c e cap l zs x hx lo s hs z hz
def nC {α:Type} (c:Enc α) (e s:Nat) (hs:s=c.sz) (zs:List D) (z:α) (hz:c.dec zs=some z):=And.intro (ST c e s hs) <| And.intro (J5 c e s hs) <| And.intro (MW c e s hs zs z hz) <| And.intro (N5 c e s hs zs z hz) <| And.intro (Jt c e s hs zs z hz) (Kz c e s hs zs z hz)
theorem HR {α β:Type} (a:Int) (X Y N:Option β) (L:Option α) (p:α→Prop) [∀ y,Decidable (p y)] (W V:α→Option β):
  (if a < 1 then X else if 10 < a then Y else L.bind fun y=>if p y then if a.toNat * 1=0 then W y else V y else N)
    =if a < 1 then X else if 10 < a then Y else L.bind fun y=>if p y then V y else N:=by
 by_cases h:a < 1
 ·rw [if_pos h,if_pos h]
 ·have h':¬ a.toNat * 1=0:=by omega
  simp only [h',if_false]
theorem WE (n:Nat):(n:Int).toNat=n:=Int.toNat_natCast n
theorem pV {α:Type} (c:Enc α) (h:∀ x,(c.enc x).all D.flat=true) (fl:TypeId→Bool) (e:Nat) (cap:Option Nat) (lk:Bool) (l:List α):yO fl (ye c e cap lk l)=fl e:=by
 have:(zh c l).all D.flat=true:=by
  unfold zh
  rw [List.all_flatMap]
  simp [h]
 simp only [ye,yO,this,Bool.and_true]
theorem Lr (x:Int):cI.enc x=[.int .i64 x]:=rfl
theorem Mr (x:Int):cI.dec [.int .i64 x]=some x:=rfl
theorem LA (x:Int):c8.enc x=[.int .u8 x]:=rfl
theorem LN (x:Int):c8.dec [.int .u8 x]=some x:=rfl
theorem N4 (x:Bool):cB.enc x=[.bool x]:=rfl
theorem Lk (x:Bool):cB.dec [.bool x]=some x:=rfl
theorem KR (x:List UInt8):cS.enc x=[sD x]:=rfl
theorem Lu (x:List UInt8):cS.dec [sD x]=some x:=rfl
theorem Qw (cells:List D) (o:Nat) (xs:List D):n3 cells o xs=cells.take o++xs++cells.drop (o+xs.length):=rfl
theorem Tb {α β:Type} (b:β) (f:α→β):(none:Option α).elim b f=b:=rfl
theorem V3 {α β:Type} (b:β) (f:α→β) (x:α):(some x).elim b f=f x:=rfl
theorem Rr {α:Type} (a:α) (l r:List α):(a :: l)++r=a :: (l++r):=rfl
theorem Oy {α:Type} (r:List α):[]++r=r:=rfl
theorem Vb {α β:Type} (x:α) (f:α→Option β):(some x).bind f=f x:=rfl
theorem WX {α β:Type} (f:α→Option β):(none:Option α).bind f=none:=rfl
theorem Uu {α β γ:Type} (x:Option α) (f:α→Option β) (g:β→Option γ):(x.bind f).bind g=x.bind fun y=>(f y).bind g:=Option.bind_assoc ..
theorem wv {α:Type} (c:Enc α) (k K:Nat) (h:K=k * c.sz) (l:List α):(zh c l)[K]? =(l[k]?).bind fun x=>(c.enc x)[0]? :=by
 subst h; exact V2 c c.sz l k rfl
theorem MZ {α:Type} (c:Enc α) (e:Nat) (cap:Option Nat) (l:List α) (xs:List D) (z:Nat) (hz:l.length=z):rK (e,c.sz,z,cap,zh c l) 0 xs=
  (c.dec xs).elim (u7 (e,c.sz,z,cap,zh c l) 0 xs) fun x=>(oM l 0 x).bind fun l'=>some (yl c e cap l'):=by
 cases hd:c.dec xs with
 | none=>rfl
 | some x=>
   subst hz
   have:=YT c e cap l 0 c.sz xs x rfl hd
   rw [Nat.zero_mul] at this
   rw [this]
   simp only [Option.elim]
   cases oM l 0 x <;> rfl
theorem Nw {α:Type} (a:α) (l:List α) (x:α):oM (a :: l) 0 x=some (x :: l):=by simp [oM]
def bQ {α:Type} (c:Enc α) (h:c.sz=1):=And.intro (MZ c) <| And.intro (@Nw α) <| And.intro (wv c 1 1 (by rw [h])) <| And.intro (wv c 2 2 (by rw [h])) <| And.intro (wv c 3 3 (by rw [h])) <| And.intro (wv c 4 4 (by rw [h])) (wv c 5 5 (by rw [h]))
def yr:=And.intro (bQ cI rfl) <| And.intro (bQ cS rfl) <| And.intro (bQ cB rfl) (bQ c8 rfl)
def rI:=And.intro (pV cI (fun _=>rfl)) <| And.intro (pD cI 1 rfl) (And.intro Lr Mr)
def r8:=And.intro (pV c8 (fun _=>rfl)) <| And.intro (pD c8 1 rfl) (And.intro LA LN)
def rB:=And.intro (pV cB (fun _=>rfl)) <| And.intro (pD cB 1 rfl) (And.intro N4 Lk)
theorem iz {α:Type} (c:Enc α) (fl:TypeId→Bool) (e:Nat) (cap:Option Nat) (lk:Bool) (l:List α):yO fl (ye c e cap lk l)=(fl e&&(zh c l).all D.flat):=by simp only [ye,yO]
def rLI:=And.intro (iz (cL cI)) <| And.intro (pD (cL cI) 1 rfl) (And.intro (MA cI) (Mk cI))
def rS:=And.intro (pV cS (fun _=>rfl)) <| And.intro (pD cS 1 rfl) (And.intro KR Lu)
inductive Res (α:Type) where
 | ok (a:α)
 | pan (x:D)
def Res.on {α β:Type} (r:Res α) (f:α→Option β) (g:D→Option β):Option β:=match r with
 | .ok a=>f a
 | .pan x=>g x
inductive Alt (α β:Type) where
 | a (x:α)
 | b (y:β)
def Alt.on {α β γ:Type} (r:Alt α β) (f:α→Option γ) (g:β→Option γ):Option γ:=match r with
 | .a x=>f x
 | .b y=>g y
theorem J7 {α β γ:Type} (x:α) (f:α→Option γ) (g:β→Option γ):(Alt.a x:Alt α β).on f g=f x:=rfl
theorem JQ {α β γ:Type} (y:β) (f:α→Option γ) (g:β→Option γ):(Alt.b y:Alt α β).on f g=g y:=rfl
theorem SY {α β γ δ:Type} (r:Alt α β) (f:α→Option γ) (g:β→Option γ) (h:γ→Option δ):(r.on f g).bind h=r.on (fun a=>(f a).bind h) (fun x=>(g x).bind h):=by cases r <;> rfl
theorem Jb {α β:Type} (fl:TypeId→Bool) (ob:Nat→Ob) (d:Nat) (ls ms:List Nat) (r:Alt α β) (f:α→Option XOut) (g:β→Option XOut):dR fl ob d ls ms (r.on f g)=r.on (fun a=>dR fl ob d ls ms (f a)) (fun x=>dR fl ob d ls ms (g x)):=by cases r <;> rfl
theorem Ry {α β:Type} {E:En} {k:List KJ} {st:St} (d:Option Nat) (r:Alt α β) (f:α→Option Out) (g:β→Option Out) (l:List SOper):vj E d (r.on f g) l k st=r.on (fun a=>vj E d (f a) l k st) (fun x=>vj E d (g x) l k st):=by cases r <;> rfl
theorem U6 {α β:Type} {E:En} {k:List KJ} {st:St} (v:List Nat) (d:Option Nat) (op:SOp) (r:Alt α β) (f:α→Option Out) (g:β→Option Out) (l:List SOper):
  yI E v d op (r.on f g) l k st=r.on (fun a=>yI E v d op (f a) l k st) (fun x=>yI E v d op (g x) l k st):=by cases r <;> rfl
theorem Uv {α β:Type} {E:En} {k:List KJ} {st:St} (v fb:List Nat) (fl:Bool) (wt:List Nat) (d:Option Nat) (op:SOp) (r:Alt α β) (f:α→Option Out) (g:β→Option Out) (l:List SOper):
  xU E v fb fl wt d op (r.on f g) l k st=r.on (fun a=>xU E v fb fl wt d op (f a) l k st) (fun x=>xU E v fb fl wt d op (g x) l k st):=by cases r <;> rfl
theorem Jk {α β:Type} (a:α) (f:α→Option β) (g:D→Option β):(Res.ok a).on f g=f a:=rfl
theorem LD {α β:Type} (x:D) (f:α→Option β) (g:D→Option β):(Res.pan x:Res α).on f g=g x:=rfl
theorem Pt {α β γ:Type} (r:Res α) (f:α→Option β) (g:D→Option β) (h:β→Option γ):(r.on f g).bind h=r.on (fun a=>(f a).bind h) (fun x=>(g x).bind h):=by cases r <;> rfl
theorem JS {α:Type} (fl:TypeId→Bool) (ob:Nat→Ob) (d:Nat) (ls ms:List Nat) (r:Res α) (f:α→Option XOut) (g:D→Option XOut):dR fl ob d ls ms (r.on f g)=r.on (fun a=>dR fl ob d ls ms (f a)) (fun x=>dR fl ob d ls ms (g x)):=by cases r <;> rfl
theorem O1 {α:Type} {E:En} {k:List KJ} {st:St} (d:Option Nat) (r:Res α) (f:α→Option Out) (g:D→Option Out) (l:List SOper):vj E d (r.on f g) l k st=r.on (fun a=>vj E d (f a) l k st) (fun x=>vj E d (g x) l k st):=by cases r <;> rfl
theorem SF {α:Type} {E:En} {k:List KJ} {st:St} (v fb:List Nat) (fl:Bool) (wt:List Nat) (d:Option Nat) (op:SOp) (r:Res α) (f:α→Option Out) (g:D→Option Out) (l:List SOper):
  xU E v fb fl wt d op (r.on f g) l k st=r.on (fun a=>xU E v fb fl wt d op (f a) l k st) (fun x=>xU E v fb fl wt d op (g x) l k st):=by cases r <;> rfl
theorem TQ {α:Type} {E:En} {k:List KJ} {st:St} (v:List Nat) (d:Option Nat) (op:SOp) (r:Res α) (f:α→Option Out) (g:D→Option Out) (l:List SOper):
  yI E v d op (r.on f g) l k st=r.on (fun a=>yI E v d op (f a) l k st) (fun x=>yI E v d op (g x) l k st):=by cases r <;> rfl
mutual
def ncX:X→X
 | .own e s n _ cells lk=> .own e s n none cells lk
 | .box xs=> .box (ur xs)
 | .agg xs=> .agg (ur xs)
 | .tup xs=> .tup (ur xs)
 | .d x=> .d x
 | .nil=> .nil
 | .par k=> .par k
 | .res k x=> .res k x
def ur:List X→List X
 | []=>[]
 | x :: xs=>ncX x :: ur xs
end
def nocap:XOut→XOut
 | .ret x outs=> .ret (ncX x) outs
 | .pan x outs=> .pan x outs
theorem KV {α:Type} (c:Enc α) (e:Nat) (cap:Option Nat) (lk:Bool) (l:List α):ncX (ye c e cap lk l)=ye c e none lk l:=by simp only [ye,ncX]
theorem IU (x:D):ncX (.d x)= .d x:=by simp only [ncX]
theorem Mx:ncX .nil= .nil:=by simp only [ncX]
theorem K2 (k:Nat):ncX (.par k)= .par k:=by simp only [ncX]
theorem Ls (k:RK) (x:D):ncX (.res k x)= .res k x:=by simp only [ncX]
theorem Kk (xs:List X):ncX (.box xs)= .box (ur xs):=by simp only [ncX]
theorem KB (xs:List X):ncX (.agg xs)= .agg (ur xs):=by simp only [ncX]
theorem LI (xs:List X):ncX (.tup xs)= .tup (ur xs):=by simp only [ncX]
theorem Nt:ur []=[]:=by simp only [ur]
theorem Sh (x:X) (xs:List X):ur (x :: xs)=ncX x :: ur xs:=by simp only [ur]
theorem VH (x:X) (outs:List (List D)):nocap (.ret x outs)= .ret (ncX x) outs:=rfl
theorem Vo (x:D) (outs:List (List D)):nocap (.pan x outs)= .pan x outs:=rfl
inductive Md where
 | k
 | own (e s:Nat)
 | node (l:List Md)
 | dat
mutual
def yd:Md→X→X
 | .own e s,.nil=> .own e s 0 none [] false
 | .dat,.nil=> .d (.lst 0 [])
 | .node ms,.agg xs=> .agg (w4 ms xs)
 | .node ms,.tup xs=> .tup (w4 ms xs)
 | _,x=>x
def w4:List Md→List X→List X
 | m :: ms,x :: xs=>yd m x :: w4 ms xs
 | _,xs=>xs
end
def oS (m:Md):XOut→XOut
 | .ret x outs=> .ret (yd m x) outs
 | .pan x outs=> .pan x outs
theorem MN (e s:Nat):yd (.own e s) .nil= .own e s 0 none [] false:=by simp only [yd]
theorem Kt (m:Md) (k:Nat):yd m (.par k)= .par k:=by cases m <;> simp only [yd]
theorem LF (m:Md) (k:RK) (x:D):yd m (.res k x)= .res k x:=by cases m <;> simp only [yd]
theorem HE:yd .dat .nil= .d (.lst 0 []):=by simp only [yd]
theorem IN (x:X):yd .k x=x:=by simp only [yd]
theorem Mb {α:Type} (c:Enc α) (m:Md) (e:Nat) (cap:Option Nat) (lk:Bool) (l:List α):yd m (ye c e cap lk l)=ye c e cap lk l:=by
 cases m <;> simp only [ye,yd]
theorem IQ (m:Md) (x:D):yd m (.d x)= .d x:=by cases m <;> simp only [yd]
theorem KG (ms:List Md) (xs:List X):yd (.node ms) (.agg xs)= .agg (w4 ms xs):=by simp only [yd]
theorem KA (ms:List Md) (xs:List X):yd (.node ms) (.tup xs)= .tup (w4 ms xs):=by simp only [yd]
theorem PF (ms:List Md):w4 ms []=[]:=by cases ms <;> simp only [w4]
theorem RL (xs:List X):w4 [] xs=xs:=by simp only [w4]
theorem RS (m:Md) (ms:List Md) (x:X) (xs:List X):w4 (m :: ms) (x :: xs)=yd m x :: w4 ms xs:=by simp only [w4]
theorem UA (m:Md) (x:X) (outs:List (List D)):oS m (.ret x outs)= .ret (yd m x) outs:=rfl
theorem Vw (m:Md) (x:D) (outs:List (List D)):oS m (.pan x outs)= .pan x outs:=rfl
def mk1:List D→List D
 | [x]=>[x,.bool true]
 | ds=>ds
def qh:List Bool→List (List D)→List (List D)
 | true :: bs,ds :: outs=>mk1 ds :: qh bs outs
 | false :: bs,ds :: outs=>ds :: qh bs outs
 | _,outs=>outs
def Wq (bs:List Bool):XOut→XOut
 | .ret x outs=> .ret x (qh bs outs)
 | .pan x outs=> .pan x outs
theorem U5 (bs:List Bool) (x:X) (outs:List (List D)):Wq bs (.ret x outs)= .ret x (qh bs outs):=rfl
theorem VN (bs:List Bool) (x:D) (outs:List (List D)):Wq bs (.pan x outs)= .pan x outs:=rfl
theorem TS (bs:List Bool) (ds:List D) (outs:List (List D)):qh (true :: bs) (ds :: outs)=mk1 ds :: qh bs outs:=rfl
theorem Qu (bs:List Bool) (ds:List D) (outs:List (List D)):qh (false :: bs) (ds :: outs)=ds :: qh bs outs:=rfl
theorem Za (outs:List (List D)):qh [] outs=outs:=by cases outs <;> rfl
theorem Jv (x:D):mk1 [x]=[x,.bool true]:=rfl
theorem Jo (x y:D):mk1 [x,y]=[x,y]:=rfl
def w64 (n:Int):Int:=IntKind.i64.wrap n
theorem K0 (n:Int):IntKind.i64.wrap n=w64 n:=rfl
def yz:=And.intro U5 <| And.intro VN <| And.intro TS <| And.intro Qu <| And.intro Za <| And.intro Jv <| And.intro Jo <| And.intro MN <| And.intro IN <| And.intro @Mb <| And.intro IQ <| And.intro KG <| And.intro KA <| And.intro PF <| And.intro RL <| And.intro RS <| And.intro UA <| And.intro Vw <| And.intro @KV <| And.intro IU <| And.intro Mx <| And.intro K2 <| And.intro Ls <| And.intro LF <| And.intro Kt <| And.intro Kk <| And.intro KB <| And.intro LI <| And.intro Nt <| And.intro Sh <| And.intro VH <| And.intro Vo <| And.intro @KN <| And.intro @LG <| And.intro WE <| And.intro @K0 <| And.intro @J7 <| And.intro @JQ <| And.intro @SY <| And.intro @Jb <| And.intro @Ry <| And.intro @U6 <| And.intro @Uv <| And.intro @Jk <| And.intro @LD <| And.intro @Pt <| And.intro @JS <| And.intro @O1 <| And.intro @TQ <| And.intro @SF <| And.intro Qw <| And.intro @Tb <| And.intro @V3 (And.intro @Rr (And.intro @Oy (And.intro @Vb (And.intro @WX @Uu))))
def yq:=And.intro @Option.some_beq_some.{0} <| And.intro @Nat.zero_add <| And.intro @Nat.add_zero <| And.intro @Bool.not_true <| And.intro @Bool.not_false <| And.intro @Bool.and_true <| And.intro @Bool.true_and <| And.intro @Bool.and_false <| And.intro @Bool.false_and <| And.intro @Bool.and_self <| And.intro @Bool.or_false <| And.intro @Bool.false_or <| And.intro @Bool.or_true <| And.intro @Bool.true_or <| And.intro @Bool.or_self <| And.intro @decide_eq_true_eq <| And.intro @Bool.not_eq_true' <| And.intro @Bool.not_eq_eq_eq_not <| And.intro @decide_eq_false_iff_not <| And.intro @ite_not.{1} <| And.intro @ite_self.{1} <| And.intro @List.nil_append.{0} <| And.intro @List.append_nil.{0} <| And.intro @Option.map_some.{0,0} <| And.intro @Option.map_none.{0,0} <| And.intro @List.length_replicate.{0} <| And.intro @Int.natCast_nonneg <| And.intro @and_self <| And.intro @and_true <| And.intro @true_and <| And.intro @Bool.false_eq_true <| And.intro @decide_true <| And.intro @decide_false <| And.intro @List.cons_append.{0} <| And.intro @Int.cast_ofNat_Int <| And.intro @not_true_eq_false <| And.intro @not_false_eq_true <| @eq_self.{1}
structure Hy (E:En) (ps pl:List Nat) (ck:List (Nat×KO)) (rs:List RV) (dd:Option (List Nat×List Nat)) (wk:XOut→XOut) (fl:Nat→Bool):Prop where
 p:E.ps=ps
 l:E.pl=pl
 k:E.ck=ck
 r:E.rs=rs
 d:E.dd=dd
 w:∀ y,E.wk y=some (wk y)
 f:∀ e,E.Γ.fl e=fl e
end Go.Vm
