/- The rules for maps, builders, the ends of rows, shifts, bytes of texts. -/
import Derived.Test.YtafjdofgafppgaaGreatVmSim
set_option linter.unusedVariables false
set_option linter.unusedSectionVars false
set_option linter.unusedSimpArgs false
set_option linter.defProp false
namespace Go.Vm
def cH (x:Ob) (ver:Nat):Option (RK×D):=match x.o with
 | .res k y=>if x.ver=ver then some (k,y) else none
 | _=>none
theorem ZZ (ob:Nat→Ob) (id ver:Nat):og ob id ver=cH (ob id) ver:=rfl
theorem CE (v ver:Nat) (k:RK) (y:D) (lk:Bool):cH ⟨v,.res k y,lk⟩ ver=if v=ver then some (k,y) else none:=rfl
theorem zad (m:Bool) (v id ver:Nat) (k:RK) (y:D) (lk:Bool):oX m ⟨v,.res k y,lk⟩ id ver=if v=ver then some (.res k y,[],[id]) else none:=rfl
theorem HQ (v:Nat) (k:RK) (y z:D) (lk:Bool):jj ⟨v,.res k y,lk⟩ [z]=some ⟨v,.res k z,false⟩:=rfl
theorem Kd (ob:Nat→Ob) (v:Nat) (k:RK) (y:D) (lk:Bool):fE ob ⟨v,.res k y,lk⟩=if v=1 then some ([y],[]) else none:=rfl
theorem Jr (v:Nat) (k:RK) (y:D) (lk:Bool):fK ⟨v,.res k y,lk⟩ (.res k)=true:=by simp [fK]
theorem PP (v:Nat) (cs:List A) (lk:Bool):fK ⟨v,.box cs,lk⟩ .box=true:=rfl
theorem Dx (v id ver:Nat) (k:RK) (y:D) (lk:Bool):aU none ⟨v,.res k y,lk⟩ id ver=if v=ver then some (.res k y,[id]) else none:=rfl
theorem Ju (ob:Nat→Ob) (k:RK) (y:D):m5 ob (.res k y)= .res k y:=rfl
section
variable {Γ:Ctx} {ob:Nat→Ob} {d:Nat}
theorem Bw (k:RK) (y:D) (j:Nat):ofX ob d (.res k y) j=(.row (oid d j) ((ob (oid d j)).ver+1),[(oid d j,⟨(ob (oid d j)).ver+1,.res k y,false⟩)],j+1):=rfl
theorem LZ (ms:List Nat) (k:RK) (y:D) (a:A):xU ob ms (.res k y) a=a:=by cases a <;> rfl
theorem Ha (fl:TypeId→Bool) (k:RK) (y:D):xP fl (.res k y)=false:=by simp only [xP]
theorem Cv (m:List (Nat×Nat)) (k:RK) (y:D):jE m ob (.res k y)= .res k y:=rfl
theorem H3 (m:List (Nat×Nat)) (k:RK) (y:D):eD m ob (.res k y)=true:=rfl
def Kh (q:RK×D) (off id ver:Nat):Option Out:=match q.1 with
 | .bld _ _=>if off=0 then some (.val (.row id ver) []) else none
 | _=>none
theorem DI (off id ver:Nat):eval Γ ob d (.fa off) [.row id ver]=(cH (ob id) ver).bind fun q=>Kh q off id ver:=rfl
theorem Mr (id ver:Nat):eval Γ ob d .nilck [.row id ver]=(cH (ob id) ver).bind fun q=>Kh q 0 id ver:=by
 simp only [eval,ZZ]
 cases cH (ob id) ver with
 | none=>rfl
 | some q=>obtain ⟨k,y⟩:=q; cases k <;> rfl
theorem EO (T e:TypeId) (y:D) (id ver:Nat):Kh (.bld T e,y) 0 id ver=some (.val (.row id ver) []):=rfl
theorem CL (k k':IntKind) (a b:Int):eval Γ ob d .shr [.d (.int k a),.d (.int k' b)]=if 0 ≤ b then some (.val (.d (.int k (a.fdiv (2 ^ min b.toNat k.bits)))) []) else none:=rfl
def Z5 (l:List UInt8):List Int:=l.map fun b=>(b.toNat:Int)
theorem De (e:Nat) (l:List UInt8):eval Γ ob d (.s2b e) [.d (sD l)]=some (.val (.d (zf c8 (Z5 l))) []):=by
 have:zE c8 (Z5 l)=l.map fun b=>D.int .u8 b.toNat:=by
  induction l with
  | nil=>rfl
  | cons x l ih=>exact congrArg (D.int .u8 x.toNat :: ·) ih
 have h2:zf c8 (Z5 l)= .lst l.length (l.map fun b=>D.int .u8 b.toNat):=by unfold zf; rw [this]; simp [Z5]
 rw [h2]; rfl
theorem FM (T e:TypeId):eval Γ ob d (.mkR (.bld T e)) []=some (.val (.row (oid d 0) ((ob (oid d 0)).ver+1)) [(oid d 0,⟨(ob (oid d 0)).ver+1,.res (.bld T e) (sD []),false⟩)]):=rfl
theorem F0 (t:TypeId) (n:Option Nat):eval Γ ob d (.mkR (.map t n)) []=some (.val (.row (oid d 0) ((ob (oid d 0)).ver+1)) [(oid d 0,⟨(ob (oid d 0)).ver+1,.res (.map t n) (.lst 0 []),false⟩)]):=rfl
theorem I7 (t:TypeId) (n:Option Nat) (k:IntKind) (i:Int):eval Γ ob d (.mkR (.map t n)) [.d (.int k i)]=some (.val (.row (oid d 0) ((ob (oid d 0)).ver+1)) [(oid d 0,⟨(ob (oid d 0)).ver+1,.res (.map t n) (.lst 0 []),false⟩)]):=rfl
def W1 (q:RK×D) (t:TypeId) (kc:Nat) (n:Option Nat) (zero:List D) (wo:Bool) (k:D):Option Out:=if q.1= .map t n∧tI kc k=true then (pI n q.2).bind fun p=>(eJ (msz n) k p.1 p.2).bind fun r=>
     (gy n (r.getD zero)).bind fun a=>some (.val (if wo=true then .tup [a,.d (.bool r.isSome)] else a) []) else none
theorem Fs (t:TypeId) (kc:Nat) (n:Option Nat) (zero:List D) (wo:Bool) (id ver:Nat) (k:D):eval Γ ob d (.mget t kc n zero wo) [.row id ver,.d k]=(cH (ob id) ver).bind fun q=>W1 q t kc n zero wo k:=rfl
def co (q:RK×D) (t:TypeId) (kc:Nat) (n:Option Nat) (xs:List D) (k:D):Option D:=if q.1= .map t n∧tI kc k=true then (pI n q.2).bind fun p=>if xs.length=msz n then
     (dK (msz n) k xs p.1 p.2).bind fun z=>some (.lst (z.length / (1+msz n)) z) else none else none
theorem I5 (t:TypeId) (kc:Nat) (n:Option Nat) (id ver:Nat) (k:D) (a:A):eval Γ ob d (.mset t kc n) [.row id ver,.d k,a]=(cH (ob id) ver).bind fun q=>(xm ob (cellsOf a)).bind fun s=>
  if dy n a=true then (co q t kc n s.1 k).bind fun y=>some (.val .undef (zX ob s.2++[(id,⟨ver,.res (.map t n) y,false⟩)])) else none:=by
 simp only [eval,bc,ZZ,co]
 cases cH (ob id) ver with
 | none=>rfl
 | some q=>
   simp only [Option.bind_some]
   cases hs:xm ob (cellsOf a) with
   | none=>split <;> first | (cases pI n q.2 <;> rfl) | rfl
   | some s=>
     simp only [Option.bind_some]
     by_cases h:q.1= .map t n∧tI kc k=true
     ·rw [if_pos h,if_pos h]
      cases pI n q.2 with
      | none=>simp only [Option.bind_none]; split <;> rfl
      | some p=>
        simp only [Option.bind_some]
        by_cases h1:dy n a=true
        ·by_cases h2:s.1.length=msz n
         ·rw [if_pos h1,if_pos ⟨h2,h1⟩,if_pos h2]
          cases dK (msz n) k s.1 p.1 p.2 <;> rfl
         ·rw [if_pos h1,if_neg (fun q=>h2 q.1),if_neg h2]; rfl
        ·rw [if_neg h1,if_neg (fun q=>h1 q.2)]
     ·rw [if_neg h,if_neg h]; split <;> rfl
def Ty (q:RK×D):Option Int:=match q.1 with
 | .map _ n=>(pI n q.2).bind fun p=>some (p.1:Int)
 | _=>none
theorem H9 (id ver:Nat):eval Γ ob d .mlen [.row id ver]=(cH (ob id) ver).bind fun q=>(Ty q).bind fun n=>some (.val (.d (.int .i64 n)) []):=by
 simp only [eval,dq,ZZ,Ty]
 cases cH (ob id) ver with
 | none=>rfl
 | some q=>
   obtain ⟨k,y⟩:=q
   cases k with
   | bld _ _=>rfl
   | map t n=>simp only [Option.bind_some]; cases pI n y <;> rfl
theorem Kg (x:D):dy none (.d x)=true:=rfl
theorem Py (n:Nat) (cs:List A):dy (some n) (.agg cs)=true:=rfl
theorem PH (i v:Nat):dy none (.row i v)=true:=rfl
theorem EA (s id ver:Nat) (k:IntKind) (l:Int):eval Γ ob d (.vws s) [.row id ver,.d (.int k l)]=(q9 (ob id) ver).bind fun r=>if r.2.1=s∧0 ≤ l∧l ≤ (r.2.2.1:Int) then some (.val (.vw id ver l.toNat s) []) else none:=rfl
def Rh (r:Nat×Nat×Nat×Option Nat×List D) (z:List D) (lo s:Nat):Option O:=if r.2.1=s∧lo ≤ r.2.2.1∧z.length=s∧0 < s then
    some (.row r.1 r.2.1 r.2.2.1 r.2.2.2.1 (r.2.2.2.2.take (lo * s)++(List.replicate (r.2.2.1 - lo) z).flatten)) else none
theorem EC (z:List D) (id ver lo s:Nat):eval Γ ob d (.clr z) [.vw id ver lo s]=(q9 (ob id) ver).bind fun r=>if (ob id).leak=false then (Rh r z lo s).bind fun o=>some (.val (.tup []) [(id,⟨(ob id).ver,o,(ob id).leak⟩)]) else none:=by
 simp only [eval,Z4,iV,Rh]
 cases q9 (ob id) ver with
 | none=>rfl
 | some r=>
   obtain ⟨e,s',n,c,cells⟩:=r
   simp only [Option.bind_some]
   by_cases h:(ob id).leak=false
   ·rw [if_pos h]
    by_cases h2:s'=s∧lo ≤ n∧z.length=s∧0 < s
    ·obtain ⟨rfl,h3,h4,h5⟩:=h2
     rw [if_pos ⟨rfl,h,h3,h4,h5⟩,if_pos ⟨rfl,h3,h4,h5⟩]; rfl
    ·rw [if_neg h2,if_neg (fun q=>h2 ⟨q.1,q.2.2⟩)]; rfl
   ·rw [if_neg h,if_neg (fun q=>h q.2.1)]
theorem GV (i v l s:Nat):uk (.vw i v l s)=[i]:=rfl
theorem Hq (m:List (Nat×Nat)) (i v l s:Nat):no m ob (.vw i v l s)= .undef:=rfl
theorem Fa (base i v l s:Nat):ef ob base (.vw i v l s)=[]:=rfl
end
theorem Ea {α:Type} (c:Enc α) (e:Nat) (cap:Option Nat) (l:List α) (z:List D) (x:α) (hz:c.dec z=some x) (lo s:Nat) (hs:s=c.sz) (n:Nat) (hn:l.length=n):Rh (e,c.sz,n,cap,zE c l) z lo s=
  if lo ≤ l.length then some (yg c e cap (l.take lo++List.replicate (l.length - lo) x)) else none:=by
 subst hs hn
 obtain rfl:=c.dcd _ _ hz
 unfold Rh
 by_cases h:lo ≤ l.length
 ·rw [if_pos ⟨rfl,h,c.len _,c.pos⟩,if_pos h]
  simp only [yg,gv,jT,List.length_append,List.length_take,List.length_replicate]
  congr 2
  ·omega
  ·congr 1
   simp only [zE,List.flatMap_def,List.map_replicate]
 ·rw [if_neg (fun q=>h q.2.1),if_neg h]
section
variable {E:En} {k:List KJ} {st:St}
theorem Cm (r:RK) (live:List Nat) (d:Nat) (a:A) (u:Nat×Ob) (us:List (Nat×Ob)) (L:List SOper):xE E live (some d) (.mkR r) (some (.val a (u :: us))) L k st=gT E live L k { slot:=upd st.slot d a,ob:=zq st.ob (u :: us) }:=u3 _ _ _ rfl _ _ _ _
theorem DM (e:Nat) (live:List Nat) (d:Nat) (a:A) (u:Nat×Ob) (us:List (Nat×Ob)) (L:List SOper):xE E live (some d) (.s2b e) (some (.val a (u :: us))) L k st=gT E live L k { slot:=upd st.slot d a,ob:=zq st.ob (u :: us) }:=u3 _ _ _ rfl _ _ _ _
theorem Ct (z:List D) (live:List Nat) (d:Nat) (a:A) (u:Nat×Ob) (us:List (Nat×Ob)) (L:List SOper):xE E live (some d) (.clr z) (some (.val a (u :: us))) L k st=gT E live L k { slot:=upd st.slot d a,ob:=zq st.ob (u :: us) }:=u3 _ _ _ rfl _ _ _ _
theorem Jq (t kc:Nat) (n:Option Nat) (live:List Nat) (a:A) (us:List (Nat×Ob)) (L:List SOper):xE E live none (.mset t kc n) (some (.val a us)) L k st=gT E live L k { slot:=st.slot,ob:=zq st.ob us }:=Wj _ _ rfl _ _ _
theorem Ik (r:RK):SOp.isSt (.mkR r)=false:=rfl
theorem NW (t kc:Nat) (n:Option Nat):SOp.isSt (.mset t kc n)=false:=rfl
theorem Jh (e:Nat):SOp.isSt (.s2b e)=false:=rfl
theorem Im (z:List D):SOp.isSt (.clr z)=false:=rfl
theorem EB (r:RK):SOp.quiet (.mkR r)=false:=rfl
theorem HC (t kc:Nat) (n:Option Nat):SOp.quiet (.mset t kc n)=false:=rfl
theorem F1 (e:Nat):SOp.quiet (.s2b e)=false:=rfl
theorem Dd (z:List D):SOp.quiet (.clr z)=false:=rfl
end
def cP {α β:Type} (c:Enc α) (c':Enc β):Enc (α×β) where
 sz:=c.sz+c'.sz
 enc p:=c.enc p.1++c'.enc p.2
 dec xs:=(c.dec (xs.take c.sz)).bind fun a=>(c'.dec (xs.drop c.sz)).bind fun b=>some (a,b)
 len p:=by simp [c.len,c'.len]
 pos:=by have:=c.pos; omega
 dcd:=by
  intro xs x h
  obtain ⟨a,h1,h⟩:=Option.bind_eq_some_iff.mp h
  obtain ⟨b,h2,h⟩:=Option.bind_eq_some_iff.mp h
  cases h
  rw [← c.dcd _ _ h1,← c'.dcd _ _ h2,List.take_append_drop]
 edc p:=by
  have h1:(c.enc p.1++c'.enc p.2).take c.sz=c.enc p.1:=by rw [← c.len p.1]; exact List.take_left
  have h2:(c.enc p.1++c'.enc p.2).drop c.sz=c'.enc p.2:=by rw [← c.len p.1]; exact List.drop_left
  rw [h1,h2,c.edc,c'.edc]; rfl
def o8 {α β:Type} [DecidableEq α] (l:List (α×β)) (k:α):Option β:=match l with
 | []=>none
 | p :: l=>if p.1=k then some p.2 else o8 l k
def ff {α β:Type} [DecidableEq α] (l:List (α×β)) (k:α) (v:β):List (α×β):=match l with
 | []=>[(k,v)]
 | p :: l=>if p.1=k then (k,v) :: l else p :: ff l k v
structure KeyE {α:Type} (c:Enc α) (kc:Nat) where
 d:α→D
 enc:∀ a,c.enc a=[d a]
 ok:∀ a,tI kc (d a)=true
 eq:∀ [DecidableEq α] (a b:α),sn (d a) (d b)=some (decide (b=a))
theorem KeyE.sz {α:Type} {c:Enc α} {kc:Nat} (K:KeyE c kc) (a:α):c.sz=1:=by rw [← c.len a,K.enc]; rfl
section
variable {α β:Type} [DecidableEq α] {c:Enc α} {c':Enc β} {kc:Nat} (K:KeyE c kc)
theorem c9 (K:KeyE c kc) (p:α×β) (l:List (α×β)):zE (cP c c') (p :: l)=K.d p.1 :: (c'.enc p.2++zE (cP c c') l):=by
 simp [zE,cP,K.enc]
theorem Po (k:α):∀ (l:List (α×β)),eJ c'.sz (K.d k) l.length (zE (cP c c') l)=some ((o8 l k).map c'.enc)
 | []=>rfl
 | p :: l=>by
   have h1:(c'.enc p.2++zE (cP c c') l).take c'.sz=c'.enc p.2:=by rw [← c'.len p.2]; exact List.take_left
   have h2:(c'.enc p.2++zE (cP c c') l).drop c'.sz=zE (cP c c') l:=by rw [← c'.len p.2]; exact List.drop_left
   rw [c9 K,List.length_cons]
   simp only [eJ,K.eq,Option.bind_some,o8,h1,h2,decide_eq_true_eq]
   split
   ·rfl
   ·exact Po k l
theorem Nu (k:α) (v:β):∀ (l:List (α×β)),dK c'.sz (K.d k) (c'.enc v) l.length (zE (cP c c') l)=some (zE (cP c c') (ff l k v))
 | []=>by
   rw [ff,c9 K]
   simp [dK,zE]
 | p :: l=>by
   have h1:(c'.enc p.2++zE (cP c c') l).take c'.sz=c'.enc p.2:=by rw [← c'.len p.2]; exact List.take_left
   have h2:(c'.enc p.2++zE (cP c c') l).drop c'.sz=zE (cP c c') l:=by rw [← c'.len p.2]; exact List.drop_left
   rw [c9 K,List.length_cons]
   simp only [dK,K.eq,Option.bind_some,h1,h2,decide_eq_true_eq,ff]
   split
   ·rw [c9 K]; rfl
   ·rw [Nu k v l,c9 K]; rfl
theorem XU (n:Option Nat) (hn:msz n=c'.sz) (hc:c.sz=1) (l:List (α×β)):pI n (zf (cP c c') l)=some (l.length,zE (cP c c') l):=by
 unfold pI zf
 have:(zE (cP c c') l).length=l.length * (1+msz n):=by rw [wQ,hn]; show l.length * (c.sz+c'.sz)=_; rw [hc]
 simp only
 rw [if_pos this]
theorem QN (t:TypeId) (n:Option Nat) (hn:msz n=c'.sz) (hc:c.sz=1) (zs:List D) (z:β) (hz:c'.dec zs=some z) (wo:Bool) (l:List (α×β)) (k:α):
  W1 (.map t n,zf (cP c c') l) t kc n zs wo (K.d k)=(gy n (c'.enc ((o8 l k).getD z))).bind fun a=>some (.val (if wo=true then .tup [a,.d (.bool (o8 l k).isSome)] else a) []):=by
 obtain rfl:=c'.dcd _ _ hz
 unfold W1
 rw [if_pos ⟨rfl,K.ok k⟩]
 simp only [XU n hn hc,Option.bind_some,hn,Po K k l]
 cases o8 l k <;> rfl
theorem Pi (t:TypeId) (n:Option Nat) (hn:msz n=c'.sz) (hc:c.sz=1) (xs:List D) (v:β) (hv:c'.dec xs=some v) (l:List (α×β)) (k:α):
  co (.map t n,zf (cP c c') l) t kc n xs (K.d k)=some (zf (cP c c') (ff l k v)):=by
 obtain rfl:=c'.dcd _ _ hv
 unfold co
 rw [if_pos ⟨rfl,K.ok k⟩]
 simp only [XU n hn hc,Option.bind_some,hn,Nu K k v l,c'.len,if_true]
 have:(zE (cP c c') (ff l k v)).length / (1+c'.sz)=(ff l k v).length:=by
  rw [wQ]; show _ * (c.sz+c'.sz) / _=_; rw [hc]; exact Nat.mul_div_cancel _ (by omega)
 rw [this]; rfl
theorem Ph (t:TypeId) (n:Option Nat) (hn:msz n=c'.sz) (hc:c.sz=1) (l:List (α×β)):Ty (.map t n,zf (cP c c') l)=some (l.length:Int):=by
 unfold Ty
 simp only [XU n hn hc,Option.bind_some]
theorem IT (t:TypeId) (n:Option Nat):O.res (.map t n) (.lst 0 [])= .res (.map t n) (zf (cP c c') []):=rfl
end
def kI:KeyE cI 0:=⟨fun a=> .int .i64 a,fun _=>rfl,fun _=>rfl,fun a b=>by
 simp only [sn,if_true,Option.some.injEq]
 by_cases h:a=b
 ·subst h; simp
 ·simp [h,Ne.symm h]⟩
def kS:KeyE cS 1:=⟨fun a=>sD a,fun _=>rfl,fun _=>rfl,fun a b=>by
 simp only [sn,sD,Option.some.injEq]
 by_cases h:a=b
 ·subst h; simp
 ·simp [h,Ne.symm h]⟩
theorem Hm (x:D):gy none [x]=some (.d x):=rfl
theorem GB (n:Nat) (xs:List D):gy (some n) xs=if xs.length=n then some (.agg (xs.map .d)) else none:=rfl
theorem I4 {β:Type} {c':Enc β} (t:TypeId) (n:Option Nat) (hn:msz n=c'.sz) (zs:List D) (z:β) (hz:c'.dec zs=some z) (wo:Bool) (l:List (Int×β)) (k:Int):
  W1 (.map t n,zf (cP cI c') l) t 0 n zs wo (.int .i64 k)=(gy n (c'.enc ((o8 l k).getD z))).bind fun a=>some (.val (if wo=true then .tup [a,.d (.bool (o8 l k).isSome)] else a) []):=QN kI t n hn rfl zs z hz wo l k
theorem Hn {β:Type} {c':Enc β} (t:TypeId) (n:Option Nat) (hn:msz n=c'.sz) (l:List (Int×β)) (k:Int) (xs:List D):co (.map t n,zf (cP cI c') l) t 0 n xs (.int .i64 k)=
  (c'.dec xs).elim (co (.map t n,.lst l.length (zE (cP cI c') l)) t 0 n xs (.int .i64 k)) fun v=>some (zf (cP cI c') (ff l k v)):=by
 cases h:c'.dec xs with
 | none=>rfl
 | some v=>exact Pi kI t n hn rfl xs v h l k
theorem FA {β:Type} {c':Enc β} (t:TypeId) (n:Option Nat) (hn:msz n=c'.sz) (zs:List D) (z:β) (hz:c'.dec zs=some z) (wo:Bool) (l:List (List UInt8×β)) (k:List UInt8):
  W1 (.map t n,zf (cP cS c') l) t 1 n zs wo (sD k)=(gy n (c'.enc ((o8 l k).getD z))).bind fun a=>some (.val (if wo=true then .tup [a,.d (.bool (o8 l k).isSome)] else a) []):=QN kS t n hn rfl zs z hz wo l k
theorem Gc {β:Type} {c':Enc β} (t:TypeId) (n:Option Nat) (hn:msz n=c'.sz) (l:List (List UInt8×β)) (k:List UInt8) (xs:List D):co (.map t n,zf (cP cS c') l) t 1 n xs (sD k)=
  (c'.dec xs).elim (co (.map t n,.lst l.length (zE (cP cS c') l)) t 1 n xs (sD k)) fun v=>some (zf (cP cS c') (ff l k v)):=by
 cases h:c'.dec xs with
 | none=>rfl
 | some v=>exact Pi kS t n hn rfl xs v h l k
def Bd {β:Type} (c':Enc β) (t:TypeId) (n:Option Nat) (hn:msz n=c'.sz) (zs:List D) (z:β) (hz:c'.dec zs=some z):=
 And.intro (I4 (c':=c') t n hn zs z hz) <|
 And.intro (fun l k xs=>Hn (c':=c') t n hn l k xs) <| And.intro (fun l=>Ph (c:=cI) (c':=c') t n hn rfl l) (IT (c:=cI) (c':=c') t n)
def zaX {β:Type} (c':Enc β) (t:TypeId) (n:Option Nat) (hn:msz n=c'.sz) (zs:List D) (z:β) (hz:c'.dec zs=some z):=
 And.intro (FA (c':=c') t n hn zs z hz) <|
 And.intro (fun l k xs=>Gc (c':=c') t n hn l k xs) <| And.intro (fun l=>Ph (c:=cS) (c':=c') t n hn rfl l) (IT (c:=cS) (c':=c') t n)
end Go.Vm
