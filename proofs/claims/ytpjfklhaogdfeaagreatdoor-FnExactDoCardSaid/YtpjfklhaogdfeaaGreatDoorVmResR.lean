/- The rules for maps, builders, the ends of rows, shifts, bytes of texts. -/
import Derived.Test.YtpjfklhaogdfeaaGreatDoorVmSim
set_option linter.unusedVariables false
set_option linter.unusedSectionVars false
set_option linter.unusedSimpArgs false
set_option linter.defProp false
namespace Go.Vm
def n3 (x:Ob) (ver:Nat):Option (RK×D):=match x.o with
 | .res k y=>if x.ver=ver then some (k,y) else none
 | _=>none
theorem jk (ob:Nat→Ob) (id ver:Nat):uy ob id ver=n3 (ob id) ver:=rfl
theorem MF (v ver:Nat) (k:RK) (y:D) (lk:Bool):n3 ⟨v,.res k y,lk⟩ ver=if v=ver then some (k,y) else none:=rfl
theorem JB (m:Bool) (v id ver:Nat) (k:RK) (y:D) (lk:Bool):oX m ⟨v,.res k y,lk⟩ id ver=if v=ver then some (.res k y,[],[id]) else none:=rfl
theorem Rw (v:Nat) (k:RK) (y z:D) (lk:Bool):ro ⟨v,.res k y,lk⟩ [z]=some ⟨v,.res k z,false⟩:=rfl
theorem Tp (ob:Nat→Ob) (v:Nat) (k:RK) (y:D) (lk:Bool):pC ob ⟨v,.res k y,lk⟩=if v=1 then some ([y],[]) else none:=rfl
theorem UA (v:Nat) (k:RK) (y:D) (lk:Bool):pK ⟨v,.res k y,lk⟩ (.res k)=true:=by simp [pK]
theorem Y2 (v:Nat) (cs:List A) (lk:Bool):pK ⟨v,.box cs,lk⟩ .box=true:=rfl
theorem Me (v id ver:Nat) (k:RK) (y:D) (lk:Bool):kP none ⟨v,.res k y,lk⟩ id ver=if v=ver then some (.res k y,[id]) else none:=rfl
theorem T7 (ob:Nat→Ob) (k:RK) (y:D):tr ob (.res k y)= .res k y:=rfl
section
variable {Γ:Ctx} {ob:Nat→Ob} {d:Nat}
theorem LG (k:RK) (y:D) (j:Nat):ofX ob d (.res k y) j=(.row (oid d j) ((ob (oid d j)).ver+1),[(oid d j,⟨(ob (oid d j)).ver+1,.res k y,false⟩)],j+1):=rfl
theorem Ts (ms:List Nat) (k:RK) (y:D) (a:A):yB ob ms (.res k y) a=a:=by cases a <;> rfl
theorem RU (fl:TypeId→Bool) (k:RK) (y:D):yq fl (.res k y)=false:=by simp only [yq]
theorem O1 (m:List (Nat×Nat)) (k:RK) (y:D):rD m ob (.res k y)= .res k y:=rfl
theorem Po (m:List (Nat×Nat)) (k:RK) (y:D):oB m ob (.res k y)=true:=rfl
def Tz (q:RK×D) (off id ver:Nat):Option Out:=match q.1 with
 | .bld _ _=>if off=0 then some (.val (.row id ver) []) else none
 | _=>none
theorem OH (off id ver:Nat):eval Γ ob d (.fa off) [.row id ver]=(n3 (ob id) ver).bind fun q=>Tz q off id ver:=rfl
theorem X0 (id ver:Nat):eval Γ ob d .nilck [.row id ver]=(n3 (ob id) ver).bind fun q=>Tz q 0 id ver:=by
 simp only [eval,jk]
 cases n3 (ob id) ver with
 | none=>rfl
 | some q=>obtain ⟨k,y⟩:=q; cases k <;> rfl
theorem Lh (T e:TypeId) (y:D) (id ver:Nat):Tz (.bld T e,y) 0 id ver=some (.val (.row id ver) []):=rfl
theorem NR (k k':IntKind) (a b:Int):eval Γ ob d .shr [.d (.int k a),.d (.int k' b)]=if 0 ≤ b then some (.val (.d (.int k (a.fdiv (2 ^ min b.toNat k.bits)))) []) else none:=rfl
def jq (l:List UInt8):List Int:=l.map fun b=>(b.toNat:Int)
theorem MJ (e:Nat) (l:List UInt8):eval Γ ob d (.s2b e) [.d (sD l)]=some (.val (.d (zh c8 (jq l))) []):=by
 have:zb c8 (jq l)=l.map fun b=>D.int .u8 b.toNat:=by
  induction l with
  | nil=>rfl
  | cons x l ih=>exact congrArg (D.int .u8 x.toNat :: ·) ih
 have h2:zh c8 (jq l)= .lst l.length (l.map fun b=>D.int .u8 b.toNat):=by unfold zh; rw [this]; simp [jq]
 rw [h2]; rfl
theorem Mc (T e:TypeId):eval Γ ob d (.mkR (.bld T e)) []=some (.val (.row (oid d 0) ((ob (oid d 0)).ver+1)) [(oid d 0,⟨(ob (oid d 0)).ver+1,.res (.bld T e) (sD []),false⟩)]):=rfl
theorem OG (t:TypeId) (n:Option Nat):eval Γ ob d (.mkR (.map t n)) []=some (.val (.row (oid d 0) ((ob (oid d 0)).ver+1)) [(oid d 0,⟨(ob (oid d 0)).ver+1,.res (.map t n) (.lst 0 []),false⟩)]):=rfl
theorem PR (t:TypeId) (n:Option Nat) (k:IntKind) (i:Int):eval Γ ob d (.mkR (.map t n)) [.d (.int k i)]=some (.val (.row (oid d 0) ((ob (oid d 0)).ver+1)) [(oid d 0,⟨(ob (oid d 0)).ver+1,.res (.map t n) (.lst 0 []),false⟩)]):=rfl
def iV (q:RK×D) (t:TypeId) (kc:Nat) (n:Option Nat) (zero:List D) (wo:Bool) (k:D):Option Out:=if q.1= .map t n∧xY kc k=true then (v7 n q.2).bind fun p=>(oC (msz n) k p.1 p.2).bind fun r=>
     (qB n (r.getD zero)).bind fun a=>some (.val (if wo=true then .tup [a,.d (.bool r.isSome)] else a) []) else none
theorem RB (t:TypeId) (kc:Nat) (n:Option Nat) (zero:List D) (wo:Bool) (id ver:Nat) (k:D):eval Γ ob d (.mget t kc n zero wo) [.row id ver,.d k]=(n3 (ob id) ver).bind fun q=>iV q t kc n zero wo k:=rfl
def nU (q:RK×D) (t:TypeId) (kc:Nat) (n:Option Nat) (xs:List D) (k:D):Option D:=if q.1= .map t n∧xY kc k=true then (v7 n q.2).bind fun p=>if xs.length=msz n then
     (oZ (msz n) k xs p.1 p.2).bind fun z=>some (.lst (z.length / (1+msz n)) z) else none else none
theorem RC (t:TypeId) (kc:Nat) (n:Option Nat) (id ver:Nat) (k:D) (a:A):eval Γ ob d (.mset t kc n) [.row id ver,.d k,a]=(n3 (ob id) ver).bind fun q=>(zZ ob (cellsOf a)).bind fun s=>
  if oU n a=true then (nU q t kc n s.1 k).bind fun y=>some (.val .undef (zl ob s.2++[(id,⟨ver,.res (.map t n) y,false⟩)])) else none:=by
 simp only [eval,mi,jk,nU]
 cases n3 (ob id) ver with
 | none=>rfl
 | some q=>
   simp only [Option.bind_some]
   cases hs:zZ ob (cellsOf a) with
   | none=>split <;> first | (cases v7 n q.2 <;> rfl) | rfl
   | some s=>
     simp only [Option.bind_some]
     by_cases h:q.1= .map t n∧xY kc k=true
     ·rw [if_pos h,if_pos h]
      cases v7 n q.2 with
      | none=>simp only [Option.bind_none]; split <;> rfl
      | some p=>
        simp only [Option.bind_some]
        by_cases h1:oU n a=true
        ·by_cases h2:s.1.length=msz n
         ·rw [if_pos h1,if_pos ⟨h2,h1⟩,if_pos h2]
          cases oZ (msz n) k s.1 p.1 p.2 <;> rfl
         ·rw [if_pos h1,if_neg (fun q=>h2 q.1),if_neg h2]; rfl
        ·rw [if_neg h1,if_neg (fun q=>h1 q.2)]
     ·rw [if_neg h,if_neg h]; split <;> rfl
def dU (q:RK×D):Option Int:=match q.1 with
 | .map _ n=>(v7 n q.2).bind fun p=>some (p.1:Int)
 | _=>none
theorem Pq (id ver:Nat):eval Γ ob d .mlen [.row id ver]=(n3 (ob id) ver).bind fun q=>(dU q).bind fun n=>some (.val (.d (.int .i64 n)) []):=by
 simp only [eval,oL,jk,dU]
 cases n3 (ob id) ver with
 | none=>rfl
 | some q=>
   obtain ⟨k,y⟩:=q
   cases k with
   | bld _ _=>rfl
   | ext _ _ _=>rfl
   | map t n=>simp only [Option.bind_some]; cases v7 n y <;> rfl
theorem UM (x:D):oU none (.d x)=true:=rfl
theorem Xq (n:Nat) (cs:List A):oU (some n) (.agg cs)=true:=rfl
theorem Z9 (i v:Nat):oU none (.row i v)=true:=rfl
theorem Ow (s id ver:Nat) (k:IntKind) (l:Int):eval Γ ob d (.vws s) [.row id ver,.d (.int k l)]=(vv (ob id) ver).bind fun r=>if r.2.1=s∧0 ≤ l∧l ≤ (r.2.2.1:Int) then some (.val (.vw id ver l.toNat s) []) else none:=rfl
def bD (r:Nat×Nat×Nat×Option Nat×List D) (z:List D) (lo s:Nat):Option O:=if r.2.1=s∧lo ≤ r.2.2.1∧z.length=s∧0 < s then
    some (.row r.1 r.2.1 r.2.2.1 r.2.2.2.1 (r.2.2.2.2.take (lo * s)++(List.replicate (r.2.2.1 - lo) z).flatten)) else none
theorem NS (z:List D) (id ver lo s:Nat):eval Γ ob d (.clr z) [.vw id ver lo s]=(vv (ob id) ver).bind fun r=>if (ob id).leak=false then (bD r z lo s).bind fun o=>some (.val (.tup []) [(id,⟨(ob id).ver,o,(ob id).leak⟩)]) else none:=by
 simp only [eval,jr,qu,bD]
 cases vv (ob id) ver with
 | none=>rfl
 | some r=>
   obtain ⟨e,s',n,c,cells⟩:=r
   simp only [Option.bind_some]
   by_cases h:(ob id).leak=false
   ·rw [if_pos h]
    by_cases h2:s'=s∧lo ≤ n∧z.length=s∧0 < s
    ·obtain ⟨rfl,h3,h4,h5⟩:=h2
     rw [if_pos ⟨rfl,h,h3,h4,h5⟩,if_pos ⟨rfl,h3,h4,h5⟩]; rfl
    ·rw [if_neg h2,if_neg (fun q=>h2 ⟨q.1,q.2.2⟩)]; rfl
   ·rw [if_neg h,if_neg (fun q=>h q.2.1)]
theorem PB (i v l s:Nat):xk (.vw i v l s)=[i]:=rfl
theorem Ph (m:List (Nat×Nat)) (i v l s:Nat):uH m ob (.vw i v l s)= .undef:=rfl
theorem QE (base i v l s:Nat):p5 ob base (.vw i v l s)=[]:=rfl
end
theorem Lo {α:Type} (c:Enc α) (e:Nat) (cap:Option Nat) (l:List α) (z:List D) (x:α) (hz:c.dec z=some x) (lo s:Nat) (hs:s=c.sz) (n:Nat) (hn:l.length=n):bD (e,c.sz,n,cap,zb c l) z lo s=
  if lo ≤ l.length then some (zY c e cap (l.take lo++List.replicate (l.length - lo) x)) else none:=by
 subst hs hn
 obtain rfl:=c.dcd _ _ hz
 unfold bD
 by_cases h:lo ≤ l.length
 ·rw [if_pos ⟨rfl,h,c.len _,c.pos⟩,if_pos h]
  simp only [zY,qE,rN,List.length_append,List.length_take,List.length_replicate]
  congr 2
  ·omega
  ·congr 1
   simp only [zb,List.flatMap_def,List.map_replicate]
 ·rw [if_neg (fun q=>h q.2.1),if_neg h]
section
variable {E:En} {k:List KJ} {st:St}
theorem OK (r:RK) (live:List Nat) (d:Nat) (a:A) (u:Nat×Ob) (us:List (Nat×Ob)) (L:List SOper):yi E live (some d) (.mkR r) (some (.val a (u :: us))) L k st=gT E live L k { slot:=upd st.slot d a,ob:=za st.ob (u :: us) }:=xF _ _ _ rfl _ _ _ _
theorem ON (e:Nat) (live:List Nat) (d:Nat) (a:A) (u:Nat×Ob) (us:List (Nat×Ob)) (L:List SOper):yi E live (some d) (.s2b e) (some (.val a (u :: us))) L k st=gT E live L k { slot:=upd st.slot d a,ob:=za st.ob (u :: us) }:=xF _ _ _ rfl _ _ _ _
theorem Mg (z:List D) (live:List Nat) (d:Nat) (a:A) (u:Nat×Ob) (us:List (Nat×Ob)) (L:List SOper):yi E live (some d) (.clr z) (some (.val a (u :: us))) L k st=gT E live L k { slot:=upd st.slot d a,ob:=za st.ob (u :: us) }:=xF _ _ _ rfl _ _ _ _
theorem Si (t kc:Nat) (n:Option Nat) (live:List Nat) (a:A) (us:List (Nat×Ob)) (L:List SOper):yi E live none (.mset t kc n) (some (.val a us)) L k st=gT E live L k { slot:=st.slot,ob:=za st.ob us }:=gI _ _ rfl _ _ _
theorem Sm (r:RK):SOp.isSt (.mkR r)=false:=rfl
theorem Ws (t kc:Nat) (n:Option Nat):SOp.isSt (.mset t kc n)=false:=rfl
theorem TO (e:Nat):SOp.isSt (.s2b e)=false:=rfl
theorem Tv (z:List D):SOp.isSt (.clr z)=false:=rfl
theorem NA (r:RK):SOp.quiet (.mkR r)=false:=rfl
theorem Pi (t kc:Nat) (n:Option Nat):SOp.quiet (.mset t kc n)=false:=rfl
theorem NG (e:Nat):SOp.quiet (.s2b e)=false:=rfl
theorem Lf (z:List D):SOp.quiet (.clr z)=false:=rfl
end
def cP {α β:Type} (c:Enc α) (c':Enc β):Enc (α×β) where
 sz:=c.sz+c'.sz
 enc p:=c.enc p.1++c'.enc p.2
 dec xs:=(c.dec (xs.take c.sz)).bind fun a=>(c'.dec (xs.drop c.sz)).bind fun b=>some (a,b)
 len p:=by simp [c.len,c'.len]
 pos:=by have:=c.pos; omega
 dcd:=by
  intro xs x h
  obtain ⟨a,h1,h⟩:=Option.bind_eq_some_iff.mp h
  obtain ⟨b,h2,h⟩:=Option.bind_eq_some_iff.mp h
  cases h
  rw [← c.dcd _ _ h1,← c'.dcd _ _ h2,List.take_append_drop]
 edc p:=by
  have h1:(c.enc p.1++c'.enc p.2).take c.sz=c.enc p.1:=by rw [← c.len p.1]; exact List.take_left
  have h2:(c.enc p.1++c'.enc p.2).drop c.sz=c'.enc p.2:=by rw [← c.len p.1]; exact List.drop_left
  rw [h1,h2,c.edc,c'.edc]; rfl
def n9 {α β:Type} [DecidableEq α] (l:List (α×β)) (k:α):Option β:=match l with
 | []=>none
 | p :: l=>if p.1=k then some p.2 else n9 l k
def lm {α β:Type} [DecidableEq α] (l:List (α×β)) (k:α) (v:β):List (α×β):=match l with
 | []=>[(k,v)]
 | p :: l=>if p.1=k then (k,v) :: l else p :: lm l k v
structure KeyE {α:Type} (c:Enc α) (kc:Nat) where
 d:α→D
 enc:∀ a,c.enc a=[d a]
 ok:∀ a,xY kc (d a)=true
 eq:∀ [DecidableEq α] (a b:α),wl (d a) (d b)=some (decide (b=a))
theorem KeyE.sz {α:Type} {c:Enc α} {kc:Nat} (K:KeyE c kc) (a:α):c.sz=1:=by rw [← c.len a,K.enc]; rfl
section
variable {α β:Type} [DecidableEq α] {c:Enc α} {c':Enc β} {kc:Nat} (K:KeyE c kc)
theorem mV (K:KeyE c kc) (p:α×β) (l:List (α×β)):zb (cP c c') (p :: l)=K.d p.1 :: (c'.enc p.2++zb (cP c c') l):=by
 simp [zb,cP,K.enc]
theorem Zr (k:α):∀ (l:List (α×β)),oC c'.sz (K.d k) l.length (zb (cP c c') l)=some ((n9 l k).map c'.enc)
 | []=>rfl
 | p :: l=>by
   have h1:(c'.enc p.2++zb (cP c c') l).take c'.sz=c'.enc p.2:=by rw [← c'.len p.2]; exact List.take_left
   have h2:(c'.enc p.2++zb (cP c c') l).drop c'.sz=zb (cP c c') l:=by rw [← c'.len p.2]; exact List.drop_left
   rw [mV K,List.length_cons]
   simp only [oC,K.eq,Option.bind_some,n9,h1,h2,decide_eq_true_eq]
   split
   ·rfl
   ·exact Zr k l
theorem Vx (k:α) (v:β):∀ (l:List (α×β)),oZ c'.sz (K.d k) (c'.enc v) l.length (zb (cP c c') l)=some (zb (cP c c') (lm l k v))
 | []=>by
   rw [lm,mV K]
   simp [oZ,zb]
 | p :: l=>by
   have h1:(c'.enc p.2++zb (cP c c') l).take c'.sz=c'.enc p.2:=by rw [← c'.len p.2]; exact List.take_left
   have h2:(c'.enc p.2++zb (cP c c') l).drop c'.sz=zb (cP c c') l:=by rw [← c'.len p.2]; exact List.drop_left
   rw [mV K,List.length_cons]
   simp only [oZ,K.eq,Option.bind_some,h1,h2,decide_eq_true_eq,lm]
   split
   ·rw [mV K]; rfl
   ·rw [Vx k v l,mV K]; rfl
theorem ik (n:Option Nat) (hn:msz n=c'.sz) (hc:c.sz=1) (l:List (α×β)):v7 n (zh (cP c c') l)=some (l.length,zb (cP c c') l):=by
 unfold v7 zh
 have:(zb (cP c c') l).length=l.length * (1+msz n):=by rw [yM,hn]; show l.length * (c.sz+c'.sz)=_; rw [hc]
 simp only
 rw [if_pos this]
theorem Zs (t:TypeId) (n:Option Nat) (hn:msz n=c'.sz) (hc:c.sz=1) (zs:List D) (z:β) (hz:c'.dec zs=some z) (wo:Bool) (l:List (α×β)) (k:α):
  iV (.map t n,zh (cP c c') l) t kc n zs wo (K.d k)=(qB n (c'.enc ((n9 l k).getD z))).bind fun a=>some (.val (if wo=true then .tup [a,.d (.bool (n9 l k).isSome)] else a) []):=by
 obtain rfl:=c'.dcd _ _ hz
 unfold iV
 rw [if_pos ⟨rfl,K.ok k⟩]
 simp only [ik n hn hc,Option.bind_some,hn,Zr K k l]
 cases n9 l k <;> rfl
theorem Zl (t:TypeId) (n:Option Nat) (hn:msz n=c'.sz) (hc:c.sz=1) (xs:List D) (v:β) (hv:c'.dec xs=some v) (l:List (α×β)) (k:α):
  nU (.map t n,zh (cP c c') l) t kc n xs (K.d k)=some (zh (cP c c') (lm l k v)):=by
 obtain rfl:=c'.dcd _ _ hv
 unfold nU
 rw [if_pos ⟨rfl,K.ok k⟩]
 simp only [ik n hn hc,Option.bind_some,hn,Vx K k v l,c'.len,if_true]
 have:(zb (cP c c') (lm l k v)).length / (1+c'.sz)=(lm l k v).length:=by
  rw [yM]; show _ * (c.sz+c'.sz) / _=_; rw [hc]; exact Nat.mul_div_cancel _ (by omega)
 rw [this]; rfl
theorem Zp (t:TypeId) (n:Option Nat) (hn:msz n=c'.sz) (hc:c.sz=1) (l:List (α×β)):dU (.map t n,zh (cP c c') l)=some (l.length:Int):=by
 unfold dU
 simp only [ik n hn hc,Option.bind_some]
theorem Ri (t:TypeId) (n:Option Nat):O.res (.map t n) (.lst 0 [])= .res (.map t n) (zh (cP c c') []):=rfl
end
def kI:KeyE cI 0:=⟨fun a=> .int .i64 a,fun _=>rfl,fun _=>rfl,fun a b=>by
 simp only [wl,if_true,Option.some.injEq]
 by_cases h:a=b
 ·subst h; simp
 ·simp [h,Ne.symm h]⟩
def kS:KeyE cS 1:=⟨fun a=>sD a,fun _=>rfl,fun _=>rfl,fun a b=>by
 simp only [wl,sD,Option.some.injEq]
 by_cases h:a=b
 ·subst h; simp
 ·simp [h,Ne.symm h]⟩
theorem Pb (x:D):qB none [x]=some (.d x):=rfl
theorem RE (n:Nat) (xs:List D):qB (some n) xs=if xs.length=n then some (.agg (xs.map .d)) else none:=rfl
theorem Rv {β:Type} {c':Enc β} (t:TypeId) (n:Option Nat) (hn:msz n=c'.sz) (zs:List D) (z:β) (hz:c'.dec zs=some z) (wo:Bool) (l:List (Int×β)) (k:Int):
  iV (.map t n,zh (cP cI c') l) t 0 n zs wo (.int .i64 k)=(qB n (c'.enc ((n9 l k).getD z))).bind fun a=>some (.val (if wo=true then .tup [a,.d (.bool (n9 l k).isSome)] else a) []):=Zs kI t n hn rfl zs z hz wo l k
theorem PD {β:Type} {c':Enc β} (t:TypeId) (n:Option Nat) (hn:msz n=c'.sz) (l:List (Int×β)) (k:Int) (xs:List D):nU (.map t n,zh (cP cI c') l) t 0 n xs (.int .i64 k)=
  (c'.dec xs).elim (nU (.map t n,.lst l.length (zb (cP cI c') l)) t 0 n xs (.int .i64 k)) fun v=>some (zh (cP cI c') (lm l k v)):=by
 cases h:c'.dec xs with
 | none=>rfl
 | some v=>exact Zl kI t n hn rfl xs v h l k
theorem Qw {β:Type} {c':Enc β} (t:TypeId) (n:Option Nat) (hn:msz n=c'.sz) (zs:List D) (z:β) (hz:c'.dec zs=some z) (wo:Bool) (l:List (List UInt8×β)) (k:List UInt8):
  iV (.map t n,zh (cP cS c') l) t 1 n zs wo (sD k)=(qB n (c'.enc ((n9 l k).getD z))).bind fun a=>some (.val (if wo=true then .tup [a,.d (.bool (n9 l k).isSome)] else a) []):=Zs kS t n hn rfl zs z hz wo l k
theorem QZ {β:Type} {c':Enc β} (t:TypeId) (n:Option Nat) (hn:msz n=c'.sz) (l:List (List UInt8×β)) (k:List UInt8) (xs:List D):nU (.map t n,zh (cP cS c') l) t 1 n xs (sD k)=
  (c'.dec xs).elim (nU (.map t n,.lst l.length (zb (cP cS c') l)) t 1 n xs (sD k)) fun v=>some (zh (cP cS c') (lm l k v)):=by
 cases h:c'.dec xs with
 | none=>rfl
 | some v=>exact Zl kS t n hn rfl xs v h l k
def Iz {β:Type} (c':Enc β) (t:TypeId) (n:Option Nat) (hn:msz n=c'.sz) (zs:List D) (z:β) (hz:c'.dec zs=some z):=
 And.intro (Rv (c':=c') t n hn zs z hz) <|
 And.intro (fun l k xs=>PD (c':=c') t n hn l k xs) <| And.intro (fun l=>Zp (c:=cI) (c':=c') t n hn rfl l) (Ri (c:=cI) (c':=c') t n)
def Iy {β:Type} (c':Enc β) (t:TypeId) (n:Option Nat) (hn:msz n=c'.sz) (zs:List D) (z:β) (hz:c'.dec zs=some z):=
 And.intro (Qw (c':=c') t n hn zs z hz) <|
 And.intro (fun l k xs=>QZ (c':=c') t n hn l k xs) <| And.intro (fun l=>Zp (c:=cS) (c':=c') t n hn rfl l) (Ri (c:=cS) (c':=c') t n)
end Go.Vm
