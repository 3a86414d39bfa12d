/- The rules for maps, builders, the ends of rows, shifts, bytes of texts. -/
import Derived.Test.YtpjfklhaogdfeaaVmSim
set_option linter.unusedVariables false
set_option linter.unusedSectionVars false
set_option linter.unusedSimpArgs false
set_option linter.defProp false
namespace Go.Vm
def kP (x:Ob) (ver:Nat):Option (RK×D):=match x.o with
 | .res k y=>if x.ver=ver then some (k,y) else none
 | _=>none
theorem fG (ob:Nat→Ob) (id ver:Nat):t6 ob id ver=kP (ob id) ver:=rfl
theorem Iz (v ver:Nat) (k:RK) (y:D) (lk:Bool):kP ⟨v,.res k y,lk⟩ ver=if v=ver then some (k,y) else none:=rfl
theorem Gi (m:Bool) (v id ver:Nat) (k:RK) (y:D) (lk:Bool):oX m ⟨v,.res k y,lk⟩ id ver=if v=ver then some (.res k y,[],[id]) else none:=rfl
theorem La (v:Nat) (k:RK) (y z:D) (lk:Bool):om ⟨v,.res k y,lk⟩ [z]=some ⟨v,.res k z,false⟩:=rfl
theorem QR (ob:Nat→Ob) (v:Nat) (k:RK) (y:D) (lk:Bool):mF ob ⟨v,.res k y,lk⟩=if v=1 then some ([y],[]) else none:=rfl
theorem PT (v:Nat) (k:RK) (y:D) (lk:Bool):my ⟨v,.res k y,lk⟩ (.res k)=true:=by simp [my]
theorem Um (v:Nat) (cs:List A) (lk:Bool):my ⟨v,.box cs,lk⟩ .box=true:=rfl
theorem KA (v id ver:Nat) (k:RK) (y:D) (lk:Bool):fe none ⟨v,.res k y,lk⟩ id ver=if v=ver then some (.res k y,[id]) else none:=rfl
theorem Qk (ob:Nat→Ob) (k:RK) (y:D):rM ob (.res k y)= .res k y:=rfl
section
variable {Γ:Ctx} {ob:Nat→Ob} {d:Nat}
theorem HM (k:RK) (y:D) (j:Nat):ofX ob d (.res k y) j=(.row (oid d j) ((ob (oid d j)).ver+1),[(oid d j,⟨(ob (oid d j)).ver+1,.res k y,false⟩)],j+1):=rfl
theorem RZ (ms:List Nat) (k:RK) (y:D) (a:A):yY ob ms (.res k y) a=a:=by cases a <;> rfl
theorem NK (fl:TypeId→Bool) (k:RK) (y:D):yT fl (.res k y)=false:=by simp only [yT]
theorem Kf (m:List (Nat×Nat)) (k:RK) (y:D):oo m ob (.res k y)= .res k y:=rfl
theorem O8 (m:List (Nat×Nat)) (k:RK) (y:D):mZ m ob (.res k y)=true:=rfl
def Qu (q:RK×D) (off id ver:Nat):Option Out:=match q.1 with
 | .bld _ _=>if off=0 then some (.val (.row id ver) []) else none
 | _=>none
theorem Jb (off id ver:Nat):eval Γ ob d (.fa off) [.row id ver]=(kP (ob id) ver).bind fun q=>Qu q off id ver:=rfl
theorem Sb (id ver:Nat):eval Γ ob d .nilck [.row id ver]=(kP (ob id) ver).bind fun q=>Qu q 0 id ver:=by
 simp only [eval,fG]
 cases kP (ob id) ver with
 | none=>rfl
 | some q=>obtain ⟨k,y⟩:=q; cases k <;> rfl
theorem LG (T e:TypeId) (y:D) (id ver:Nat):Qu (.bld T e,y) 0 id ver=some (.val (.row id ver) []):=rfl
theorem Ik (k k':IntKind) (a b:Int):eval Γ ob d .shr [.d (.int k a),.d (.int k' b)]=if 0 ≤ b then some (.val (.d (.int k (a.fdiv (2 ^ min b.toNat k.bits)))) []) else none:=rfl
def fU (l:List UInt8):List Int:=l.map fun b=>(b.toNat:Int)
theorem J2 (e:Nat) (l:List UInt8):eval Γ ob d (.s2b e) [.d (sD l)]=some (.val (.d (zf c8 (fU l))) []):=by
 have:zm c8 (fU l)=l.map fun b=>D.int .u8 b.toNat:=by
  induction l with
  | nil=>rfl
  | cons x l ih=>exact congrArg (D.int .u8 x.toNat :: ·) ih
 have h2:zf c8 (fU l)= .lst l.length (l.map fun b=>D.int .u8 b.toNat):=by unfold zf; rw [this]; simp [fU]
 rw [h2]; rfl
theorem Kh (T e:TypeId):eval Γ ob d (.mkR (.bld T e)) []=some (.val (.row (oid d 0) ((ob (oid d 0)).ver+1)) [(oid d 0,⟨(ob (oid d 0)).ver+1,.res (.bld T e) (sD []),false⟩)]):=rfl
theorem JV (t:TypeId) (n:Option Nat):eval Γ ob d (.mkR (.map t n)) []=some (.val (.row (oid d 0) ((ob (oid d 0)).ver+1)) [(oid d 0,⟨(ob (oid d 0)).ver+1,.res (.map t n) (.lst 0 []),false⟩)]):=rfl
theorem NH (t:TypeId) (n:Option Nat) (k:IntKind) (i:Int):eval Γ ob d (.mkR (.map t n)) [.d (.int k i)]=some (.val (.row (oid d 0) ((ob (oid d 0)).ver+1)) [(oid d 0,⟨(ob (oid d 0)).ver+1,.res (.map t n) (.lst 0 []),false⟩)]):=rfl
def dV (q:RK×D) (t:TypeId) (kc:Nat) (n:Option Nat) (zero:List D) (wo:Bool) (k:D):Option Out:=if q.1= .map t n∧vh kc k=true then (tv n q.2).bind fun p=>(mW (msz n) k p.1 p.2).bind fun r=>
     (nO n (r.getD zero)).bind fun a=>some (.val (if wo=true then .tup [a,.d (.bool r.isSome)] else a) []) else none
theorem Mu (t:TypeId) (kc:Nat) (n:Option Nat) (zero:List D) (wo:Bool) (id ver:Nat) (k:D):eval Γ ob d (.mget t kc n zero wo) [.row id ver,.d k]=(kP (ob id) ver).bind fun q=>dV q t kc n zero wo k:=rfl
def l8 (q:RK×D) (t:TypeId) (kc:Nat) (n:Option Nat) (xs:List D) (k:D):Option D:=if q.1= .map t n∧vh kc k=true then (tv n q.2).bind fun p=>if xs.length=msz n then
     (lL (msz n) k xs p.1 p.2).bind fun z=>some (.lst (z.length / (1+msz n)) z) else none else none
theorem M2 (t:TypeId) (kc:Nat) (n:Option Nat) (id ver:Nat) (k:D) (a:A):eval Γ ob d (.mset t kc n) [.row id ver,.d k,a]=(kP (ob id) ver).bind fun q=>(yH ob (cellsOf a)).bind fun s=>
  if lx n a=true then (l8 q t kc n s.1 k).bind fun y=>some (.val .undef (zt ob s.2++[(id,⟨ver,.res (.map t n) y,false⟩)])) else none:=by
 simp only [eval,kV,fG,l8]
 cases kP (ob id) ver with
 | none=>rfl
 | some q=>
   simp only [Option.bind_some]
   cases hs:yH ob (cellsOf a) with
   | none=>split <;> first | (cases tv n q.2 <;> rfl) | rfl
   | some s=>
     simp only [Option.bind_some]
     by_cases h:q.1= .map t n∧vh kc k=true
     ·rw [if_pos h,if_pos h]
      cases tv n q.2 with
      | none=>simp only [Option.bind_none]; split <;> rfl
      | some p=>
        simp only [Option.bind_some]
        by_cases h1:lx n a=true
        ·by_cases h2:s.1.length=msz n
         ·rw [if_pos h1,if_pos ⟨h2,h1⟩,if_pos h2]
          cases lL (msz n) k s.1 p.1 p.2 <;> rfl
         ·rw [if_pos h1,if_neg (fun q=>h2 q.1),if_neg h2]; rfl
        ·rw [if_neg h1,if_neg (fun q=>h1 q.2)]
     ·rw [if_neg h,if_neg h]; split <;> rfl
def ZK (q:RK×D):Option Int:=match q.1 with
 | .map _ n=>(tv n q.2).bind fun p=>some (p.1:Int)
 | _=>none
theorem N7 (id ver:Nat):eval Γ ob d .mlen [.row id ver]=(kP (ob id) ver).bind fun q=>(ZK q).bind fun n=>some (.val (.d (.int .i64 n)) []):=by
 simp only [eval,lR,fG,ZK]
 cases kP (ob id) ver with
 | none=>rfl
 | some q=>
   obtain ⟨k,y⟩:=q
   cases k with
   | bld _ _=>rfl
   | map t n=>simp only [Option.bind_some]; cases tv n y <;> rfl
theorem QC (x:D):lx none (.d x)=true:=rfl
theorem Vh (n:Nat) (cs:List A):lx (some n) (.agg cs)=true:=rfl
theorem VZ (i v:Nat):lx none (.row i v)=true:=rfl
theorem KV (s id ver:Nat) (k:IntKind) (l:Int):eval Γ ob d (.vws s) [.row id ver,.d (.int k l)]=(uR (ob id) ver).bind fun r=>if r.2.1=s∧0 ≤ l∧l ≤ (r.2.2.1:Int) then some (.val (.vw id ver l.toNat s) []) else none:=rfl
def Z5 (r:Nat×Nat×Nat×Option Nat×List D) (z:List D) (lo s:Nat):Option O:=if r.2.1=s∧lo ≤ r.2.2.1∧z.length=s∧0 < s then
    some (.row r.1 r.2.1 r.2.2.1 r.2.2.2.1 (r.2.2.2.2.take (lo * s)++(List.replicate (r.2.2.1 - lo) z).flatten)) else none
theorem If (z:List D) (id ver lo s:Nat):eval Γ ob d (.clr z) [.vw id ver lo s]=(uR (ob id) ver).bind fun r=>if (ob id).leak=false then (Z5 r z lo s).bind fun o=>some (.val (.tup []) [(id,⟨(ob id).ver,o,(ob id).leak⟩)]) else none:=by
 simp only [eval,fQ,np,Z5]
 cases uR (ob id) ver with
 | none=>rfl
 | some r=>
   obtain ⟨e,s',n,c,cells⟩:=r
   simp only [Option.bind_some]
   by_cases h:(ob id).leak=false
   ·rw [if_pos h]
    by_cases h2:s'=s∧lo ≤ n∧z.length=s∧0 < s
    ·obtain ⟨rfl,h3,h4,h5⟩:=h2
     rw [if_pos ⟨rfl,h,h3,h4,h5⟩,if_pos ⟨rfl,h3,h4,h5⟩]; rfl
    ·rw [if_neg h2,if_neg (fun q=>h2 ⟨q.1,q.2.2⟩)]; rfl
   ·rw [if_neg h,if_neg (fun q=>h q.2.1)]
theorem Nq (i v l s:Nat):we (.vw i v l s)=[i]:=rfl
theorem N1 (m:List (Nat×Nat)) (i v l s:Nat):sO m ob (.vw i v l s)= .undef:=rfl
theorem Lh (base i v l s:Nat):mL ob base (.vw i v l s)=[]:=rfl
end
theorem IG {α:Type} (c:Enc α) (e:Nat) (cap:Option Nat) (l:List α) (z:List D) (x:α) (hz:c.dec z=some x) (lo s:Nat) (hs:s=c.sz) (n:Nat) (hn:l.length=n):Z5 (e,c.sz,n,cap,zm c l) z lo s=
  if lo ≤ l.length then some (zW c e cap (l.take lo++List.replicate (l.length - lo) x)) else none:=by
 subst hs hn
 obtain rfl:=c.dcd _ _ hz
 unfold Z5
 by_cases h:lo ≤ l.length
 ·rw [if_pos ⟨rfl,h,c.len _,c.pos⟩,if_pos h]
  simp only [zW,nJ,oC,List.length_append,List.length_take,List.length_replicate]
  congr 2
  ·omega
  ·congr 1
   simp only [zm,List.flatMap_def,List.map_replicate]
 ·rw [if_neg (fun q=>h q.2.1),if_neg h]
section
variable {E:En} {k:List KJ} {st:St}
theorem Ki (r:RK) (live:List Nat) (d:Nat) (a:A) (u:Nat×Ob) (us:List (Nat×Ob)) (L:List SOper):yO E live (some d) (.mkR r) (some (.val a (u :: us))) L k st=gT E live L k { slot:=upd st.slot d a,ob:=zh st.ob (u :: us) }:=wG _ _ _ rfl _ _ _ _
theorem J3 (e:Nat) (live:List Nat) (d:Nat) (a:A) (u:Nat×Ob) (us:List (Nat×Ob)) (L:List SOper):yO E live (some d) (.s2b e) (some (.val a (u :: us))) L k st=gT E live L k { slot:=upd st.slot d a,ob:=zh st.ob (u :: us) }:=wG _ _ _ rfl _ _ _ _
theorem Kb (z:List D) (live:List Nat) (d:Nat) (a:A) (u:Nat×Ob) (us:List (Nat×Ob)) (L:List SOper):yO E live (some d) (.clr z) (some (.val a (u :: us))) L k st=gT E live L k { slot:=upd st.slot d a,ob:=zh st.ob (u :: us) }:=wG _ _ _ rfl _ _ _ _
theorem QO (t kc:Nat) (n:Option Nat) (live:List Nat) (a:A) (us:List (Nat×Ob)) (L:List SOper):yO E live none (.mset t kc n) (some (.val a us)) L k st=gT E live L k { slot:=st.slot,ob:=zh st.ob us }:=cV _ _ rfl _ _ _
theorem R6 (r:RK):SOp.isSt (.mkR r)=false:=rfl
theorem S9 (t kc:Nat) (n:Option Nat):SOp.isSt (.mset t kc n)=false:=rfl
theorem QX (e:Nat):SOp.isSt (.s2b e)=false:=rfl
theorem QT (z:List D):SOp.isSt (.clr z)=false:=rfl
theorem Km (r:RK):SOp.quiet (.mkR r)=false:=rfl
theorem No (t kc:Nat) (n:Option Nat):SOp.quiet (.mset t kc n)=false:=rfl
theorem Jj (e:Nat):SOp.quiet (.s2b e)=false:=rfl
theorem LN (z:List D):SOp.quiet (.clr z)=false:=rfl
end
def cP {α β:Type} (c:Enc α) (c':Enc β):Enc (α×β) where
 sz:=c.sz+c'.sz
 enc p:=c.enc p.1++c'.enc p.2
 dec xs:=(c.dec (xs.take c.sz)).bind fun a=>(c'.dec (xs.drop c.sz)).bind fun b=>some (a,b)
 len p:=by simp [c.len,c'.len]
 pos:=by have:=c.pos; omega
 dcd:=by
  intro xs x h
  obtain ⟨a,h1,h⟩:=Option.bind_eq_some_iff.mp h
  obtain ⟨b,h2,h⟩:=Option.bind_eq_some_iff.mp h
  cases h
  rw [← c.dcd _ _ h1,← c'.dcd _ _ h2,List.take_append_drop]
 edc p:=by
  have h1:(c.enc p.1++c'.enc p.2).take c.sz=c.enc p.1:=by rw [← c.len p.1]; exact List.take_left
  have h2:(c.enc p.1++c'.enc p.2).drop c.sz=c'.enc p.2:=by rw [← c.len p.1]; exact List.drop_left
  rw [h1,h2,c.edc,c'.edc]; rfl
def kN {α β:Type} [DecidableEq α] (l:List (α×β)) (k:α):Option β:=match l with
 | []=>none
 | p :: l=>if p.1=k then some p.2 else kN l k
def j0 {α β:Type} [DecidableEq α] (l:List (α×β)) (k:α) (v:β):List (α×β):=match l with
 | []=>[(k,v)]
 | p :: l=>if p.1=k then (k,v) :: l else p :: j0 l k v
structure KeyE {α:Type} (c:Enc α) (kc:Nat) where
 d:α→D
 enc:∀ a,c.enc a=[d a]
 ok:∀ a,vh kc (d a)=true
 eq:∀ [DecidableEq α] (a b:α),vK (d a) (d b)=some (decide (b=a))
theorem KeyE.sz {α:Type} {c:Enc α} {kc:Nat} (K:KeyE c kc) (a:α):c.sz=1:=by rw [← c.len a,K.enc]; rfl
section
variable {α β:Type} [DecidableEq α] {c:Enc α} {c':Enc β} {kc:Nat} (K:KeyE c kc)
theorem jb (K:KeyE c kc) (p:α×β) (l:List (α×β)):zm (cP c c') (p :: l)=K.d p.1 :: (c'.enc p.2++zm (cP c c') l):=by
 simp [zm,cP,K.enc]
theorem Wv (k:α):∀ (l:List (α×β)),mW c'.sz (K.d k) l.length (zm (cP c c') l)=some ((kN l k).map c'.enc)
 | []=>rfl
 | p :: l=>by
   have h1:(c'.enc p.2++zm (cP c c') l).take c'.sz=c'.enc p.2:=by rw [← c'.len p.2]; exact List.take_left
   have h2:(c'.enc p.2++zm (cP c c') l).drop c'.sz=zm (cP c c') l:=by rw [← c'.len p.2]; exact List.drop_left
   rw [jb K,List.length_cons]
   simp only [mW,K.eq,Option.bind_some,kN,h1,h2,decide_eq_true_eq]
   split
   ·rfl
   ·exact Wv k l
theorem TB (k:α) (v:β):∀ (l:List (α×β)),lL c'.sz (K.d k) (c'.enc v) l.length (zm (cP c c') l)=some (zm (cP c c') (j0 l k v))
 | []=>by
   rw [j0,jb K]
   simp [lL,zm]
 | p :: l=>by
   have h1:(c'.enc p.2++zm (cP c c') l).take c'.sz=c'.enc p.2:=by rw [← c'.len p.2]; exact List.take_left
   have h2:(c'.enc p.2++zm (cP c c') l).drop c'.sz=zm (cP c c') l:=by rw [← c'.len p.2]; exact List.drop_left
   rw [jb K,List.length_cons]
   simp only [lL,K.eq,Option.bind_some,h1,h2,decide_eq_true_eq,j0]
   split
   ·rw [jb K]; rfl
   ·rw [TB k v l,jb K]; rfl
theorem eZ (n:Option Nat) (hn:msz n=c'.sz) (hc:c.sz=1) (l:List (α×β)):tv n (zf (cP c c') l)=some (l.length,zm (cP c c') l):=by
 unfold tv zf
 have:(zm (cP c c') l).length=l.length * (1+msz n):=by rw [xw,hn]; show l.length * (c.sz+c'.sz)=_; rw [hc]
 simp only
 rw [if_pos this]
theorem WD (t:TypeId) (n:Option Nat) (hn:msz n=c'.sz) (hc:c.sz=1) (zs:List D) (z:β) (hz:c'.dec zs=some z) (wo:Bool) (l:List (α×β)) (k:α):
  dV (.map t n,zf (cP c c') l) t kc n zs wo (K.d k)=(nO n (c'.enc ((kN l k).getD z))).bind fun a=>some (.val (if wo=true then .tup [a,.d (.bool (kN l k).isSome)] else a) []):=by
 obtain rfl:=c'.dcd _ _ hz
 unfold dV
 rw [if_pos ⟨rfl,K.ok k⟩]
 simp only [eZ n hn hc,Option.bind_some,hn,Wv K k l]
 cases kN l k <;> rfl
theorem WH (t:TypeId) (n:Option Nat) (hn:msz n=c'.sz) (hc:c.sz=1) (xs:List D) (v:β) (hv:c'.dec xs=some v) (l:List (α×β)) (k:α):
  l8 (.map t n,zf (cP c c') l) t kc n xs (K.d k)=some (zf (cP c c') (j0 l k v)):=by
 obtain rfl:=c'.dcd _ _ hv
 unfold l8
 rw [if_pos ⟨rfl,K.ok k⟩]
 simp only [eZ n hn hc,Option.bind_some,hn,TB K k v l,c'.len,if_true]
 have:(zm (cP c c') (j0 l k v)).length / (1+c'.sz)=(j0 l k v).length:=by
  rw [xw]; show _ * (c.sz+c'.sz) / _=_; rw [hc]; exact Nat.mul_div_cancel _ (by omega)
 rw [this]; rfl
theorem WJ (t:TypeId) (n:Option Nat) (hn:msz n=c'.sz) (hc:c.sz=1) (l:List (α×β)):ZK (.map t n,zf (cP c c') l)=some (l.length:Int):=by
 unfold ZK
 simp only [eZ n hn hc,Option.bind_some]
theorem OG (t:TypeId) (n:Option Nat):O.res (.map t n) (.lst 0 [])= .res (.map t n) (zf (cP c c') []):=rfl
end
def kI:KeyE cI 0:=⟨fun a=> .int .i64 a,fun _=>rfl,fun _=>rfl,fun a b=>by
 simp only [vK,if_true,Option.some.injEq]
 by_cases h:a=b
 ·subst h; simp
 ·simp [h,Ne.symm h]⟩
def kS:KeyE cS 1:=⟨fun a=>sD a,fun _=>rfl,fun _=>rfl,fun a b=>by
 simp only [vK,sD,Option.some.injEq]
 by_cases h:a=b
 ·subst h; simp
 ·simp [h,Ne.symm h]⟩
theorem M0 (x:D):nO none [x]=some (.d x):=rfl
theorem Nz (n:Nat) (xs:List D):nO (some n) xs=if xs.length=n then some (.agg (xs.map .d)) else none:=rfl
theorem Mz {β:Type} {c':Enc β} (t:TypeId) (n:Option Nat) (hn:msz n=c'.sz) (zs:List D) (z:β) (hz:c'.dec zs=some z) (wo:Bool) (l:List (Int×β)) (k:Int):
  dV (.map t n,zf (cP cI c') l) t 0 n zs wo (.int .i64 k)=(nO n (c'.enc ((kN l k).getD z))).bind fun a=>some (.val (if wo=true then .tup [a,.d (.bool (kN l k).isSome)] else a) []):=WD kI t n hn rfl zs z hz wo l k
theorem Mp {β:Type} {c':Enc β} (t:TypeId) (n:Option Nat) (hn:msz n=c'.sz) (l:List (Int×β)) (k:Int) (xs:List D):l8 (.map t n,zf (cP cI c') l) t 0 n xs (.int .i64 k)=
  (c'.dec xs).elim (l8 (.map t n,.lst l.length (zm (cP cI c') l)) t 0 n xs (.int .i64 k)) fun v=>some (zf (cP cI c') (j0 l k v)):=by
 cases h:c'.dec xs with
 | none=>rfl
 | some v=>exact WH kI t n hn rfl xs v h l k
theorem MC {β:Type} {c':Enc β} (t:TypeId) (n:Option Nat) (hn:msz n=c'.sz) (zs:List D) (z:β) (hz:c'.dec zs=some z) (wo:Bool) (l:List (List UInt8×β)) (k:List UInt8):
  dV (.map t n,zf (cP cS c') l) t 1 n zs wo (sD k)=(nO n (c'.enc ((kN l k).getD z))).bind fun a=>some (.val (if wo=true then .tup [a,.d (.bool (kN l k).isSome)] else a) []):=WD kS t n hn rfl zs z hz wo l k
theorem Ns {β:Type} {c':Enc β} (t:TypeId) (n:Option Nat) (hn:msz n=c'.sz) (l:List (List UInt8×β)) (k:List UInt8) (xs:List D):l8 (.map t n,zf (cP cS c') l) t 1 n xs (sD k)=
  (c'.dec xs).elim (l8 (.map t n,.lst l.length (zm (cP cS c') l)) t 1 n xs (sD k)) fun v=>some (zf (cP cS c') (j0 l k v)):=by
 cases h:c'.dec xs with
 | none=>rfl
 | some v=>exact WH kS t n hn rfl xs v h l k
def FX {β:Type} (c':Enc β) (t:TypeId) (n:Option Nat) (hn:msz n=c'.sz) (zs:List D) (z:β) (hz:c'.dec zs=some z):=
 And.intro (Mz (c':=c') t n hn zs z hz) <|
 And.intro (fun l k xs=>Mp (c':=c') t n hn l k xs) <| And.intro (fun l=>WJ (c:=cI) (c':=c') t n hn rfl l) (OG (c:=cI) (c':=c') t n)
def FU {β:Type} (c':Enc β) (t:TypeId) (n:Option Nat) (hn:msz n=c'.sz) (zs:List D) (z:β) (hz:c'.dec zs=some z):=
 And.intro (MC (c':=c') t n hn zs z hz) <|
 And.intro (fun l k xs=>Ns (c':=c') t n hn l k xs) <| And.intro (fun l=>WJ (c:=cS) (c':=c') t n hn rfl l) (OG (c:=cS) (c':=c') t n)
end Go.Vm
