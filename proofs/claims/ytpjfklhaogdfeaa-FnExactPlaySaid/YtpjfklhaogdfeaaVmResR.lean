/- The rules for maps, builders, the ends of rows, shifts, bytes of texts. -/
import Derived.Test.YtpjfklhaogdfeaaVmSim
set_option linter.unusedVariables false
set_option linter.unusedSectionVars false
set_option linter.unusedSimpArgs false
set_option linter.defProp false
namespace Go.Vm
def lu (x:Ob) (ver:Nat):Option (RK×D):=match x.o with
 | .res k y=>if x.ver=ver then some (k,y) else none
 | _=>none
theorem iB (ob:Nat→Ob) (id ver:Nat):tm ob id ver=lu (ob id) ver:=rfl
theorem MO (v ver:Nat) (k:RK) (y:D) (lk:Bool):lu ⟨v,.res k y,lk⟩ ver=if v=ver then some (k,y) else none:=rfl
theorem HB (m:Bool) (v id ver:Nat) (k:RK) (y:D) (lk:Bool):oX m ⟨v,.res k y,lk⟩ id ver=if v=ver then some (.res k y,[],[id]) else none:=rfl
theorem NK (v:Nat) (k:RK) (y z:D) (lk:Bool):qP ⟨v,.res k y,lk⟩ [z]=some ⟨v,.res k z,false⟩:=rfl
theorem Sb (ob:Nat→Ob) (v:Nat) (k:RK) (y:D) (lk:Bool):nr ob ⟨v,.res k y,lk⟩=if v=1 then some ([y],[]) else none:=rfl
theorem RB (v:Nat) (k:RK) (y:D) (lk:Bool):nt ⟨v,.res k y,lk⟩ (.res k)=true:=by simp [nt]
theorem X3 (v:Nat) (cs:List A) (lk:Bool):nt ⟨v,.box cs,lk⟩ .box=true:=rfl
theorem Km (v id ver:Nat) (k:RK) (y:D) (lk:Bool):jx none ⟨v,.res k y,lk⟩ id ver=if v=ver then some (.res k y,[id]) else none:=rfl
theorem T8 (ob:Nat→Ob) (k:RK) (y:D):s6 ob (.res k y)= .res k y:=rfl
section
variable {Γ:Ctx} {ob:Nat→Ob} {d:Nat}
theorem JL (k:RK) (y:D) (j:Nat):ofX ob d (.res k y) j=(.row (oid d j) ((ob (oid d j)).ver+1),[(oid d j,⟨(ob (oid d j)).ver+1,.res k y,false⟩)],j+1):=rfl
theorem Sr (ms:List Nat) (k:RK) (y:D) (a:A):yS ob ms (.res k y) a=a:=by cases a <;> rfl
theorem NA (fl:TypeId→Bool) (k:RK) (y:D):yO fl (.res k y)=false:=by simp only [yO]
theorem N6 (m:List (Nat×Nat)) (k:RK) (y:D):pe m ob (.res k y)= .res k y:=rfl
theorem O8 (m:List (Nat×Nat)) (k:RK) (y:D):nM m ob (.res k y)=true:=rfl
def Qo (q:RK×D) (off id ver:Nat):Option Out:=match q.1 with
 | .bld _ _=>if off=0 then some (.val (.row id ver) []) else none
 | _=>none
theorem Ks (off id ver:Nat):eval Γ ob d (.fa off) [.row id ver]=(lu (ob id) ver).bind fun q=>Qo q off id ver:=rfl
theorem U3 (id ver:Nat):eval Γ ob d .nilck [.row id ver]=(lu (ob id) ver).bind fun q=>Qo q 0 id ver:=by
 simp only [eval,iB]
 cases lu (ob id) ver with
 | none=>rfl
 | some q=>obtain ⟨k,y⟩:=q; cases k <;> rfl
theorem N0 (T e:TypeId) (y:D) (id ver:Nat):Qo (.bld T e,y) 0 id ver=some (.val (.row id ver) []):=rfl
theorem Mc (k k':IntKind) (a b:Int):eval Γ ob d .shr [.d (.int k a),.d (.int k' b)]=if 0 ≤ b then some (.val (.d (.int k (a.fdiv (2 ^ min b.toNat k.bits)))) []) else none:=rfl
def iw (l:List UInt8):List Int:=l.map fun b=>(b.toNat:Int)
theorem Mw (e:Nat) (l:List UInt8):eval Γ ob d (.s2b e) [.d (sD l)]=some (.val (.d (zb c8 (iw l))) []):=by
 have:zh c8 (iw l)=l.map fun b=>D.int .u8 b.toNat:=by
  induction l with
  | nil=>rfl
  | cons x l ih=>exact congrArg (D.int .u8 x.toNat :: ·) ih
 have h2:zb c8 (iw l)= .lst l.length (l.map fun b=>D.int .u8 b.toNat):=by unfold zb; rw [this]; simp [iw]
 rw [h2]; rfl
theorem M2 (T e:TypeId):eval Γ ob d (.mkR (.bld T e)) []=some (.val (.row (oid d 0) ((ob (oid d 0)).ver+1)) [(oid d 0,⟨(ob (oid d 0)).ver+1,.res (.bld T e) (sD []),false⟩)]):=rfl
theorem MS (t:TypeId) (n:Option Nat):eval Γ ob d (.mkR (.map t n)) []=some (.val (.row (oid d 0) ((ob (oid d 0)).ver+1)) [(oid d 0,⟨(ob (oid d 0)).ver+1,.res (.map t n) (.lst 0 []),false⟩)]):=rfl
theorem PU (t:TypeId) (n:Option Nat) (k:IntKind) (i:Int):eval Γ ob d (.mkR (.map t n)) [.d (.int k i)]=some (.val (.row (oid d 0) ((ob (oid d 0)).ver+1)) [(oid d 0,⟨(ob (oid d 0)).ver+1,.res (.map t n) (.lst 0 []),false⟩)]):=rfl
def eH (q:RK×D) (t:TypeId) (kc:Nat) (n:Option Nat) (zero:List D) (wo:Bool) (k:D):Option Out:=if q.1= .map t n∧wM kc k=true then (uY n q.2).bind fun p=>(nN (msz n) k p.1 p.2).bind fun r=>
     (oG n (r.getD zero)).bind fun a=>some (.val (if wo=true then .tup [a,.d (.bool r.isSome)] else a) []) else none
theorem P6 (t:TypeId) (kc:Nat) (n:Option Nat) (zero:List D) (wo:Bool) (id ver:Nat) (k:D):eval Γ ob d (.mget t kc n zero wo) [.row id ver,.d k]=(lu (ob id) ver).bind fun q=>eH q t kc n zero wo k:=rfl
def m9 (q:RK×D) (t:TypeId) (kc:Nat) (n:Option Nat) (xs:List D) (k:D):Option D:=if q.1= .map t n∧wM kc k=true then (uY n q.2).bind fun p=>if xs.length=msz n then
     (mo (msz n) k xs p.1 p.2).bind fun z=>some (.lst (z.length / (1+msz n)) z) else none else none
theorem PP (t:TypeId) (kc:Nat) (n:Option Nat) (id ver:Nat) (k:D) (a:A):eval Γ ob d (.mset t kc n) [.row id ver,.d k,a]=(lu (ob id) ver).bind fun q=>(yp ob (cellsOf a)).bind fun s=>
  if mC n a=true then (m9 q t kc n s.1 k).bind fun y=>some (.val .undef (zo ob s.2++[(id,⟨ver,.res (.map t n) y,false⟩)])) else none:=by
 simp only [eval,lN,iB,m9]
 cases lu (ob id) ver with
 | none=>rfl
 | some q=>
   simp only [Option.bind_some]
   cases hs:yp ob (cellsOf a) with
   | none=>split <;> first | (cases uY n q.2 <;> rfl) | rfl
   | some s=>
     simp only [Option.bind_some]
     by_cases h:q.1= .map t n∧wM kc k=true
     ·rw [if_pos h,if_pos h]
      cases uY n q.2 with
      | none=>simp only [Option.bind_none]; split <;> rfl
      | some p=>
        simp only [Option.bind_some]
        by_cases h1:mC n a=true
        ·by_cases h2:s.1.length=msz n
         ·rw [if_pos h1,if_pos ⟨h2,h1⟩,if_pos h2]
          cases mo (msz n) k s.1 p.1 p.2 <;> rfl
         ·rw [if_pos h1,if_neg (fun q=>h2 q.1),if_neg h2]; rfl
        ·rw [if_neg h1,if_neg (fun q=>h1 q.2)]
     ·rw [if_neg h,if_neg h]; split <;> rfl
def bR (q:RK×D):Option Int:=match q.1 with
 | .map _ n=>(uY n q.2).bind fun p=>some (p.1:Int)
 | _=>none
theorem PE (id ver:Nat):eval Γ ob d .mlen [.row id ver]=(lu (ob id) ver).bind fun q=>(bR q).bind fun n=>some (.val (.d (.int .i64 n)) []):=by
 simp only [eval,mw,iB,bR]
 cases lu (ob id) ver with
 | none=>rfl
 | some q=>
   obtain ⟨k,y⟩:=q
   cases k with
   | bld _ _=>rfl
   | ext _ _ _=>rfl
   | map t n=>simp only [Option.bind_some]; cases uY n y <;> rfl
theorem Rs (x:D):mC none (.d x)=true:=rfl
theorem Wg (n:Nat) (cs:List A):mC (some n) (.agg cs)=true:=rfl
theorem XV (i v:Nat):mC none (.row i v)=true:=rfl
theorem Kv (s id ver:Nat) (k:IntKind) (l:Int):eval Γ ob d (.vws s) [.row id ver,.d (.int k l)]=(up (ob id) ver).bind fun r=>if r.2.1=s∧0 ≤ l∧l ≤ (r.2.2.1:Int) then some (.val (.vw id ver l.toNat s) []) else none:=rfl
def aA (r:Nat×Nat×Nat×Option Nat×List D) (z:List D) (lo s:Nat):Option O:=if r.2.1=s∧lo ≤ r.2.2.1∧z.length=s∧0 < s then
    some (.row r.1 r.2.1 r.2.2.1 r.2.2.2.1 (r.2.2.2.2.take (lo * s)++(List.replicate (r.2.2.1 - lo) z).flatten)) else none
theorem Mp (z:List D) (id ver lo s:Nat):eval Γ ob d (.clr z) [.vw id ver lo s]=(up (ob id) ver).bind fun r=>if (ob id).leak=false then (aA r z lo s).bind fun o=>some (.val (.tup []) [(id,⟨(ob id).ver,o,(ob id).leak⟩)]) else none:=by
 simp only [eval,iE,pX,aA]
 cases up (ob id) ver with
 | none=>rfl
 | some r=>
   obtain ⟨e,s',n,c,cells⟩:=r
   simp only [Option.bind_some]
   by_cases h:(ob id).leak=false
   ·rw [if_pos h]
    by_cases h2:s'=s∧lo ≤ n∧z.length=s∧0 < s
    ·obtain ⟨rfl,h3,h4,h5⟩:=h2
     rw [if_pos ⟨rfl,h,h3,h4,h5⟩,if_pos ⟨rfl,h3,h4,h5⟩]; rfl
    ·rw [if_neg h2,if_neg (fun q=>h2 ⟨q.1,q.2.2⟩)]; rfl
   ·rw [if_neg h,if_neg (fun q=>h q.2.1)]
theorem Nk (i v l s:Nat):xJ (.vw i v l s)=[i]:=rfl
theorem OZ (m:List (Nat×Nat)) (i v l s:Nat):tC m ob (.vw i v l s)= .undef:=rfl
theorem Py (base i v l s:Nat):nE ob base (.vw i v l s)=[]:=rfl
end
theorem KX {α:Type} (c:Enc α) (e:Nat) (cap:Option Nat) (l:List α) (z:List D) (x:α) (hz:c.dec z=some x) (lo s:Nat) (hs:s=c.sz) (n:Nat) (hn:l.length=n):aA (e,c.sz,n,cap,zh c l) z lo s=
  if lo ≤ l.length then some (yl c e cap (l.take lo++List.replicate (l.length - lo) x)) else none:=by
 subst hs hn
 obtain rfl:=c.dcd _ _ hz
 unfold aA
 by_cases h:lo ≤ l.length
 ·rw [if_pos ⟨rfl,h,c.len _,c.pos⟩,if_pos h]
  simp only [yl,p8,pp,List.length_append,List.length_take,List.length_replicate]
  congr 2
  ·omega
  ·congr 1
   simp only [zh,List.flatMap_def,List.map_replicate]
 ·rw [if_neg (fun q=>h q.2.1),if_neg h]
section
variable {E:En} {k:List KJ} {st:St}
theorem LU (r:RK) (live:List Nat) (d:Nat) (a:A) (u:Nat×Ob) (us:List (Nat×Ob)) (L:List SOper):yI E live (some d) (.mkR r) (some (.val a (u :: us))) L k st=gT E live L k { slot:=upd st.slot d a,ob:=za st.ob (u :: us) }:=wh _ _ _ rfl _ _ _ _
theorem M5 (e:Nat) (live:List Nat) (d:Nat) (a:A) (u:Nat×Ob) (us:List (Nat×Ob)) (L:List SOper):yI E live (some d) (.s2b e) (some (.val a (u :: us))) L k st=gT E live L k { slot:=upd st.slot d a,ob:=za st.ob (u :: us) }:=wh _ _ _ rfl _ _ _ _
theorem MT (z:List D) (live:List Nat) (d:Nat) (a:A) (u:Nat×Ob) (us:List (Nat×Ob)) (L:List SOper):yI E live (some d) (.clr z) (some (.val a (u :: us))) L k st=gT E live L k { slot:=upd st.slot d a,ob:=za st.ob (u :: us) }:=wh _ _ _ rfl _ _ _ _
theorem QH (t kc:Nat) (n:Option Nat) (live:List Nat) (a:A) (us:List (Nat×Ob)) (L:List SOper):yI E live none (.mset t kc n) (some (.val a us)) L k st=gT E live L k { slot:=st.slot,ob:=za st.ob us }:=ed _ _ rfl _ _ _
theorem QR (r:RK):SOp.isSt (.mkR r)=false:=rfl
theorem TB (t kc:Nat) (n:Option Nat):SOp.isSt (.mset t kc n)=false:=rfl
theorem QQ (e:Nat):SOp.isSt (.s2b e)=false:=rfl
theorem Qk (z:List D):SOp.isSt (.clr z)=false:=rfl
theorem KU (r:RK):SOp.quiet (.mkR r)=false:=rfl
theorem OR (t kc:Nat) (n:Option Nat):SOp.quiet (.mset t kc n)=false:=rfl
theorem MP (e:Nat):SOp.quiet (.s2b e)=false:=rfl
theorem Ja (z:List D):SOp.quiet (.clr z)=false:=rfl
end
def cP {α β:Type} (c:Enc α) (c':Enc β):Enc (α×β) where
 sz:=c.sz+c'.sz
 enc p:=c.enc p.1++c'.enc p.2
 dec xs:=(c.dec (xs.take c.sz)).bind fun a=>(c'.dec (xs.drop c.sz)).bind fun b=>some (a,b)
 len p:=by simp [c.len,c'.len]
 pos:=by have:=c.pos; omega
 dcd:=by
  intro xs x h
  obtain ⟨a,h1,h⟩:=Option.bind_eq_some_iff.mp h
  obtain ⟨b,h2,h⟩:=Option.bind_eq_some_iff.mp h
  cases h
  rw [← c.dcd _ _ h1,← c'.dcd _ _ h2,List.take_append_drop]
 edc p:=by
  have h1:(c.enc p.1++c'.enc p.2).take c.sz=c.enc p.1:=by rw [← c.len p.1]; exact List.take_left
  have h2:(c.enc p.1++c'.enc p.2).drop c.sz=c'.enc p.2:=by rw [← c.len p.1]; exact List.drop_left
  rw [h1,h2,c.edc,c'.edc]; rfl
def lv {α β:Type} [DecidableEq α] (l:List (α×β)) (k:α):Option β:=match l with
 | []=>none
 | p :: l=>if p.1=k then some p.2 else lv l k
def kH {α β:Type} [DecidableEq α] (l:List (α×β)) (k:α) (v:β):List (α×β):=match l with
 | []=>[(k,v)]
 | p :: l=>if p.1=k then (k,v) :: l else p :: kH l k v
structure KeyE {α:Type} (c:Enc α) (kc:Nat) where
 d:α→D
 enc:∀ a,c.enc a=[d a]
 ok:∀ a,wM kc (d a)=true
 eq:∀ [DecidableEq α] (a b:α),w6 (d a) (d b)=some (decide (b=a))
theorem KeyE.sz {α:Type} {c:Enc α} {kc:Nat} (K:KeyE c kc) (a:α):c.sz=1:=by rw [← c.len a,K.enc]; rfl
section
variable {α β:Type} [DecidableEq α] {c:Enc α} {c':Enc β} {kc:Nat} (K:KeyE c kc)
theorem l5 (K:KeyE c kc) (p:α×β) (l:List (α×β)):zh (cP c c') (p :: l)=K.d p.1 :: (c'.enc p.2++zh (cP c c') l):=by
 simp [zh,cP,K.enc]
theorem Y1 (k:α):∀ (l:List (α×β)),nN c'.sz (K.d k) l.length (zh (cP c c') l)=some ((lv l k).map c'.enc)
 | []=>rfl
 | p :: l=>by
   have h1:(c'.enc p.2++zh (cP c c') l).take c'.sz=c'.enc p.2:=by rw [← c'.len p.2]; exact List.take_left
   have h2:(c'.enc p.2++zh (cP c c') l).drop c'.sz=zh (cP c c') l:=by rw [← c'.len p.2]; exact List.drop_left
   rw [l5 K,List.length_cons]
   simp only [nN,K.eq,Option.bind_some,lv,h1,h2,decide_eq_true_eq]
   split
   ·rfl
   ·exact Y1 k l
theorem VB (k:α) (v:β):∀ (l:List (α×β)),mo c'.sz (K.d k) (c'.enc v) l.length (zh (cP c c') l)=some (zh (cP c c') (kH l k v))
 | []=>by
   rw [kH,l5 K]
   simp [mo,zh]
 | p :: l=>by
   have h1:(c'.enc p.2++zh (cP c c') l).take c'.sz=c'.enc p.2:=by rw [← c'.len p.2]; exact List.take_left
   have h2:(c'.enc p.2++zh (cP c c') l).drop c'.sz=zh (cP c c') l:=by rw [← c'.len p.2]; exact List.drop_left
   rw [l5 K,List.length_cons]
   simp only [mo,K.eq,Option.bind_some,h1,h2,decide_eq_true_eq,kH]
   split
   ·rw [l5 K]; rfl
   ·rw [VB k v l,l5 K]; rfl
theorem gZ (n:Option Nat) (hn:msz n=c'.sz) (hc:c.sz=1) (l:List (α×β)):uY n (zb (cP c c') l)=some (l.length,zh (cP c c') l):=by
 unfold uY zb
 have:(zh (cP c c') l).length=l.length * (1+msz n):=by rw [xd,hn]; show l.length * (c.sz+c'.sz)=_; rw [hc]
 simp only
 rw [if_pos this]
theorem YR (t:TypeId) (n:Option Nat) (hn:msz n=c'.sz) (hc:c.sz=1) (zs:List D) (z:β) (hz:c'.dec zs=some z) (wo:Bool) (l:List (α×β)) (k:α):
  eH (.map t n,zb (cP c c') l) t kc n zs wo (K.d k)=(oG n (c'.enc ((lv l k).getD z))).bind fun a=>some (.val (if wo=true then .tup [a,.d (.bool (lv l k).isSome)] else a) []):=by
 obtain rfl:=c'.dcd _ _ hz
 unfold eH
 rw [if_pos ⟨rfl,K.ok k⟩]
 simp only [gZ n hn hc,Option.bind_some,hn,Y1 K k l]
 cases lv l k <;> rfl
theorem Y7 (t:TypeId) (n:Option Nat) (hn:msz n=c'.sz) (hc:c.sz=1) (xs:List D) (v:β) (hv:c'.dec xs=some v) (l:List (α×β)) (k:α):
  m9 (.map t n,zb (cP c c') l) t kc n xs (K.d k)=some (zb (cP c c') (kH l k v)):=by
 obtain rfl:=c'.dcd _ _ hv
 unfold m9
 rw [if_pos ⟨rfl,K.ok k⟩]
 simp only [gZ n hn hc,Option.bind_some,hn,VB K k v l,c'.len,if_true]
 have:(zh (cP c c') (kH l k v)).length / (1+c'.sz)=(kH l k v).length:=by
  rw [xd]; show _ * (c.sz+c'.sz) / _=_; rw [hc]; exact Nat.mul_div_cancel _ (by omega)
 rw [this]; rfl
theorem YQ (t:TypeId) (n:Option Nat) (hn:msz n=c'.sz) (hc:c.sz=1) (l:List (α×β)):bR (.map t n,zb (cP c c') l)=some (l.length:Int):=by
 unfold bR
 simp only [gZ n hn hc,Option.bind_some]
theorem Q0 (t:TypeId) (n:Option Nat):O.res (.map t n) (.lst 0 [])= .res (.map t n) (zb (cP c c') []):=rfl
end
def kI:KeyE cI 0:=⟨fun a=> .int .i64 a,fun _=>rfl,fun _=>rfl,fun a b=>by
 simp only [w6,if_true,Option.some.injEq]
 by_cases h:a=b
 ·subst h; simp
 ·simp [h,Ne.symm h]⟩
def kS:KeyE cS 1:=⟨fun a=>sD a,fun _=>rfl,fun _=>rfl,fun a b=>by
 simp only [w6,sD,Option.some.injEq]
 by_cases h:a=b
 ·subst h; simp
 ·simp [h,Ne.symm h]⟩
theorem PY (x:D):oG none [x]=some (.d x):=rfl
theorem O6 (n:Nat) (xs:List D):oG (some n) xs=if xs.length=n then some (.agg (xs.map .d)) else none:=rfl
theorem Pq {β:Type} {c':Enc β} (t:TypeId) (n:Option Nat) (hn:msz n=c'.sz) (zs:List D) (z:β) (hz:c'.dec zs=some z) (wo:Bool) (l:List (Int×β)) (k:Int):
  eH (.map t n,zb (cP cI c') l) t 0 n zs wo (.int .i64 k)=(oG n (c'.enc ((lv l k).getD z))).bind fun a=>some (.val (if wo=true then .tup [a,.d (.bool (lv l k).isSome)] else a) []):=YR kI t n hn rfl zs z hz wo l k
theorem OM {β:Type} {c':Enc β} (t:TypeId) (n:Option Nat) (hn:msz n=c'.sz) (l:List (Int×β)) (k:Int) (xs:List D):m9 (.map t n,zb (cP cI c') l) t 0 n xs (.int .i64 k)=
  (c'.dec xs).elim (m9 (.map t n,.lst l.length (zh (cP cI c') l)) t 0 n xs (.int .i64 k)) fun v=>some (zb (cP cI c') (kH l k v)):=by
 cases h:c'.dec xs with
 | none=>rfl
 | some v=>exact Y7 kI t n hn rfl xs v h l k
theorem PL {β:Type} {c':Enc β} (t:TypeId) (n:Option Nat) (hn:msz n=c'.sz) (zs:List D) (z:β) (hz:c'.dec zs=some z) (wo:Bool) (l:List (List UInt8×β)) (k:List UInt8):
  eH (.map t n,zb (cP cS c') l) t 1 n zs wo (sD k)=(oG n (c'.enc ((lv l k).getD z))).bind fun a=>some (.val (if wo=true then .tup [a,.d (.bool (lv l k).isSome)] else a) []):=YR kS t n hn rfl zs z hz wo l k
theorem NJ {β:Type} {c':Enc β} (t:TypeId) (n:Option Nat) (hn:msz n=c'.sz) (l:List (List UInt8×β)) (k:List UInt8) (xs:List D):m9 (.map t n,zb (cP cS c') l) t 1 n xs (sD k)=
  (c'.dec xs).elim (m9 (.map t n,.lst l.length (zh (cP cS c') l)) t 1 n xs (sD k)) fun v=>some (zb (cP cS c') (kH l k v)):=by
 cases h:c'.dec xs with
 | none=>rfl
 | some v=>exact Y7 kS t n hn rfl xs v h l k
def H4 {β:Type} (c':Enc β) (t:TypeId) (n:Option Nat) (hn:msz n=c'.sz) (zs:List D) (z:β) (hz:c'.dec zs=some z):=
 And.intro (Pq (c':=c') t n hn zs z hz) <|
 And.intro (fun l k xs=>OM (c':=c') t n hn l k xs) <| And.intro (fun l=>YQ (c:=cI) (c':=c') t n hn rfl l) (Q0 (c:=cI) (c':=c') t n)
def H1 {β:Type} (c':Enc β) (t:TypeId) (n:Option Nat) (hn:msz n=c'.sz) (zs:List D) (z:β) (hz:c'.dec zs=some z):=
 And.intro (PL (c':=c') t n hn zs z hz) <|
 And.intro (fun l k xs=>NJ (c':=c') t n hn l k xs) <| And.intro (fun l=>YQ (c:=cS) (c':=c') t n hn rfl l) (Q0 (c:=cS) (c':=c') t n)
end Go.Vm
