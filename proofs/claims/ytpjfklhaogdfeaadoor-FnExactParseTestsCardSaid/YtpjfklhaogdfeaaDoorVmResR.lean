/- The rules for maps, builders, the ends of rows, shifts, bytes of texts. -/
import Derived.Test.YtpjfklhaogdfeaaDoorVmSim
set_option linter.unusedVariables false
set_option linter.unusedSectionVars false
set_option linter.unusedSimpArgs false
set_option linter.defProp false
namespace Go.Vm
def o8 (x:Ob) (ver:Nat):Option (RK×D):=match x.o with
 | .res k y=>if x.ver=ver then some (k,y) else none
 | _=>none
theorem kh (ob:Nat→Ob) (id ver:Nat):uv ob id ver=o8 (ob id) ver:=rfl
theorem QQ (v ver:Nat) (k:RK) (y:D) (lk:Bool):o8 ⟨v,.res k y,lk⟩ ver=if v=ver then some (k,y) else none:=rfl
theorem MW (m:Bool) (v id ver:Nat) (k:RK) (y:D) (lk:Bool):oX m ⟨v,.res k y,lk⟩ id ver=if v=ver then some (.res k y,[],[id]) else none:=rfl
theorem Rp (v:Nat) (k:RK) (y z:D) (lk:Bool):sY ⟨v,.res k y,lk⟩ [z]=some ⟨v,.res k z,false⟩:=rfl
theorem WU (ob:Nat→Ob) (v:Nat) (k:RK) (y:D) (lk:Bool):qQ ob ⟨v,.res k y,lk⟩=if v=1 then some ([y],[]) else none:=rfl
theorem Wo (v:Nat) (k:RK) (y:D) (lk:Bool):qX ⟨v,.res k y,lk⟩ (.res k)=true:=by simp [qX]
theorem ZM (v:Nat) (cs:List A) (lk:Bool):qX ⟨v,.box cs,lk⟩ .box=true:=rfl
theorem QZ (v id ver:Nat) (k:RK) (y:D) (lk:Bool):m7 none ⟨v,.res k y,lk⟩ id ver=if v=ver then some (.res k y,[id]) else none:=rfl
theorem UD (ob:Nat→Ob) (k:RK) (y:D):tE ob (.res k y)= .res k y:=rfl
section
variable {Γ:Ctx} {ob:Nat→Ob} {d:Nat}
theorem Mj (k:RK) (y:D) (j:Nat):ofX ob d (.res k y) j=(.row (oid d j) ((ob (oid d j)).ver+1),[(oid d j,⟨(ob (oid d j)).ver+1,.res k y,false⟩)],j+1):=rfl
theorem UP (ms:List Nat) (k:RK) (y:D) (a:A):yi ob ms (.res k y) a=a:=by cases a <;> rfl
theorem RY (fl:TypeId→Bool) (k:RK) (y:D):yd fl (.res k y)=false:=by simp only [yd]
theorem OM (m:List (Nat×Nat)) (k:RK) (y:D):ra m ob (.res k y)= .res k y:=rfl
theorem Sg (m:List (Nat×Nat)) (k:RK) (y:D):pG m ob (.res k y)=true:=rfl
def Ur (q:RK×D) (off id ver:Nat):Option Out:=match q.1 with
 | .bld _ _=>if off=0 then some (.val (.row id ver) []) else none
 | _=>none
theorem PS (off id ver:Nat):eval Γ ob d (.fa off) [.row id ver]=(o8 (ob id) ver).bind fun q=>Ur q off id ver:=rfl
theorem XL (id ver:Nat):eval Γ ob d .nilck [.row id ver]=(o8 (ob id) ver).bind fun q=>Ur q 0 id ver:=by
 simp only [eval,kh]
 cases o8 (ob id) ver with
 | none=>rfl
 | some q=>obtain ⟨k,y⟩:=q; cases k <;> rfl
theorem Q0 (T e:TypeId) (y:D) (id ver:Nat):Ur (.bld T e,y) 0 id ver=some (.val (.row id ver) []):=rfl
theorem Qp (k k':IntKind) (a b:Int):eval Γ ob d .shr [.d (.int k a),.d (.int k' b)]=if 0 ≤ b then some (.val (.d (.int k (a.fdiv (2 ^ min b.toNat k.bits)))) []) else none:=rfl
def ku (l:List UInt8):List Int:=l.map fun b=>(b.toNat:Int)
theorem QH (e:Nat) (l:List UInt8):eval Γ ob d (.s2b e) [.d (sD l)]=some (.val (.d (zb c8 (ku l))) []):=by
 have:zf c8 (ku l)=l.map fun b=>D.int .u8 b.toNat:=by
  induction l with
  | nil=>rfl
  | cons x l ih=>exact congrArg (D.int .u8 x.toNat :: ·) ih
 have h2:zb c8 (ku l)= .lst l.length (l.map fun b=>D.int .u8 b.toNat):=by unfold zb; rw [this]; simp [ku]
 rw [h2]; rfl
theorem Qh (T e:TypeId):eval Γ ob d (.mkR (.bld T e)) []=some (.val (.row (oid d 0) ((ob (oid d 0)).ver+1)) [(oid d 0,⟨(ob (oid d 0)).ver+1,.res (.bld T e) (sD []),false⟩)]):=rfl
theorem O3 (t:TypeId) (n:Option Nat):eval Γ ob d (.mkR (.map t n)) []=some (.val (.row (oid d 0) ((ob (oid d 0)).ver+1)) [(oid d 0,⟨(ob (oid d 0)).ver+1,.res (.map t n) (.lst 0 []),false⟩)]):=rfl
theorem TY (t:TypeId) (n:Option Nat) (k:IntKind) (i:Int):eval Γ ob d (.mkR (.map t n)) [.d (.int k i)]=some (.val (.row (oid d 0) ((ob (oid d 0)).ver+1)) [(oid d 0,⟨(ob (oid d 0)).ver+1,.res (.map t n) (.lst 0 []),false⟩)]):=rfl
def iz (q:RK×D) (t:TypeId) (kc:Nat) (n:Option Nat) (zero:List D) (wo:Bool) (k:D):Option Out:=if q.1= .map t n∧wj kc k=true then (ua n q.2).bind fun p=>(pH (msz n) k p.1 p.2).bind fun r=>
     (rV n (r.getD zero)).bind fun a=>some (.val (if wo=true then .tup [a,.d (.bool r.isSome)] else a) []) else none
theorem TW (t:TypeId) (kc:Nat) (n:Option Nat) (zero:List D) (wo:Bool) (id ver:Nat) (k:D):eval Γ ob d (.mget t kc n zero wo) [.row id ver,.d k]=(o8 (ob id) ver).bind fun q=>iz q t kc n zero wo k:=rfl
def oI (q:RK×D) (t:TypeId) (kc:Nat) (n:Option Nat) (xs:List D) (k:D):Option D:=if q.1= .map t n∧wj kc k=true then (ua n q.2).bind fun p=>if xs.length=msz n then
     (oo (msz n) k xs p.1 p.2).bind fun z=>some (.lst (z.length / (1+msz n)) z) else none else none
theorem R7 (t:TypeId) (kc:Nat) (n:Option Nat) (id ver:Nat) (k:D) (a:A):eval Γ ob d (.mset t kc n) [.row id ver,.d k,a]=(o8 (ob id) ver).bind fun q=>(zR ob (cellsOf a)).bind fun s=>
  if p9 n a=true then (oI q t kc n s.1 k).bind fun y=>some (.val .undef (zg ob s.2++[(id,⟨ver,.res (.map t n) y,false⟩)])) else none:=by
 simp only [eval,nF,kh,oI]
 cases o8 (ob id) ver with
 | none=>rfl
 | some q=>
   simp only [Option.bind_some]
   cases hs:zR ob (cellsOf a) with
   | none=>split <;> first | (cases ua n q.2 <;> rfl) | rfl
   | some s=>
     simp only [Option.bind_some]
     by_cases h:q.1= .map t n∧wj kc k=true
     ·rw [if_pos h,if_pos h]
      cases ua n q.2 with
      | none=>simp only [Option.bind_none]; split <;> rfl
      | some p=>
        simp only [Option.bind_some]
        by_cases h1:p9 n a=true
        ·by_cases h2:s.1.length=msz n
         ·rw [if_pos h1,if_pos ⟨h2,h1⟩,if_pos h2]
          cases oo (msz n) k s.1 p.1 p.2 <;> rfl
         ·rw [if_pos h1,if_neg (fun q=>h2 q.1),if_neg h2]; rfl
        ·rw [if_neg h1,if_neg (fun q=>h1 q.2)]
     ·rw [if_neg h,if_neg h]; split <;> rfl
def f9 (q:RK×D):Option Int:=match q.1 with
 | .map _ n=>(ua n q.2).bind fun p=>some (p.1:Int)
 | _=>none
theorem SC (id ver:Nat):eval Γ ob d .mlen [.row id ver]=(o8 (ob id) ver).bind fun q=>(f9 q).bind fun n=>some (.val (.d (.int .i64 n)) []):=by
 simp only [eval,pV,kh,f9]
 cases o8 (ob id) ver with
 | none=>rfl
 | some q=>
   obtain ⟨k,y⟩:=q
   cases k with
   | bld _ _=>rfl
   | ext _ _ _=>rfl
   | map t n=>simp only [Option.bind_some]; cases ua n y <;> rfl
theorem VR (x:D):p9 none (.d x)=true:=rfl
theorem bW (n:Nat) (cs:List A):p9 (some n) (.agg cs)=true:=rfl
theorem ZK (i v:Nat):p9 none (.row i v)=true:=rfl
theorem OL (s id ver:Nat) (k:IntKind) (l:Int):eval Γ ob d (.vws s) [.row id ver,.d (.int k l)]=(vU (ob id) ver).bind fun r=>if r.2.1=s∧0 ≤ l∧l ≤ (r.2.2.1:Int) then some (.val (.vw id ver l.toNat s) []) else none:=rfl
def ew (r:Nat×Nat×Nat×Option Nat×List D) (z:List D) (lo s:Nat):Option O:=if r.2.1=s∧lo ≤ r.2.2.1∧z.length=s∧0 < s then
    some (.row r.1 r.2.1 r.2.2.1 r.2.2.2.1 (r.2.2.2.2.take (lo * s)++(List.replicate (r.2.2.1 - lo) z).flatten)) else none
theorem QV (z:List D) (id ver lo s:Nat):eval Γ ob d (.clr z) [.vw id ver lo s]=(vU (ob id) ver).bind fun r=>if (ob id).leak=false then (ew r z lo s).bind fun o=>some (.val (.tup []) [(id,⟨(ob id).ver,o,(ob id).leak⟩)]) else none:=by
 simp only [eval,kp,rM,ew]
 cases vU (ob id) ver with
 | none=>rfl
 | some r=>
   obtain ⟨e,s',n,c,cells⟩:=r
   simp only [Option.bind_some]
   by_cases h:(ob id).leak=false
   ·rw [if_pos h]
    by_cases h2:s'=s∧lo ≤ n∧z.length=s∧0 < s
    ·obtain ⟨rfl,h3,h4,h5⟩:=h2
     rw [if_pos ⟨rfl,h,h3,h4,h5⟩,if_pos ⟨rfl,h3,h4,h5⟩]; rfl
    ·rw [if_neg h2,if_neg (fun q=>h2 ⟨q.1,q.2.2⟩)]; rfl
   ·rw [if_neg h,if_neg (fun q=>h q.2.1)]
theorem Sk (i v l s:Nat):xq (.vw i v l s)=[i]:=rfl
theorem TD (m:List (Nat×Nat)) (i v l s:Nat):uW m ob (.vw i v l s)= .undef:=rfl
theorem S6 (base i v l s:Nat):ph ob base (.vw i v l s)=[]:=rfl
end
theorem Qk {α:Type} (c:Enc α) (e:Nat) (cap:Option Nat) (l:List α) (z:List D) (x:α) (hz:c.dec z=some x) (lo s:Nat) (hs:s=c.sz) (n:Nat) (hn:l.length=n):ew (e,c.sz,n,cap,zf c l) z lo s=
  if lo ≤ l.length then some (zP c e cap (l.take lo++List.replicate (l.length - lo) x)) else none:=by
 subst hs hn
 obtain rfl:=c.dcd _ _ hz
 unfold ew
 by_cases h:lo ≤ l.length
 ·rw [if_pos ⟨rfl,h,c.len _,c.pos⟩,if_pos h]
  simp only [zP,qe,rh,List.length_append,List.length_take,List.length_replicate]
  congr 2
  ·omega
  ·congr 1
   simp only [zf,List.flatMap_def,List.map_replicate]
 ·rw [if_neg (fun q=>h q.2.1),if_neg h]
section
variable {E:En} {k:List KJ} {st:St}
theorem QC (r:RK) (live:List Nat) (d:Nat) (a:A) (u:Nat×Ob) (us:List (Nat×Ob)) (L:List SOper):z6 E live (some d) (.mkR r) (some (.val a (u :: us))) L k st=gT E live L k { slot:=upd st.slot d a,ob:=za st.ob (u :: us) }:=xH _ _ _ rfl _ _ _ _
theorem Nd (e:Nat) (live:List Nat) (d:Nat) (a:A) (u:Nat×Ob) (us:List (Nat×Ob)) (L:List SOper):z6 E live (some d) (.s2b e) (some (.val a (u :: us))) L k st=gT E live L k { slot:=upd st.slot d a,ob:=za st.ob (u :: us) }:=xH _ _ _ rfl _ _ _ _
theorem QO (z:List D) (live:List Nat) (d:Nat) (a:A) (u:Nat×Ob) (us:List (Nat×Ob)) (L:List SOper):z6 E live (some d) (.clr z) (some (.val a (u :: us))) L k st=gT E live L k { slot:=upd st.slot d a,ob:=za st.ob (u :: us) }:=xH _ _ _ rfl _ _ _ _
theorem WE (t kc:Nat) (n:Option Nat) (live:List Nat) (a:A) (us:List (Nat×Ob)) (L:List SOper):z6 E live none (.mset t kc n) (some (.val a us)) L k st=gT E live L k { slot:=st.slot,ob:=za st.ob us }:=iC _ _ rfl _ _ _
theorem VK (r:RK):SOp.isSt (.mkR r)=false:=rfl
theorem YW (t kc:Nat) (n:Option Nat):SOp.isSt (.mset t kc n)=false:=rfl
theorem WJ (e:Nat):SOp.isSt (.s2b e)=false:=rfl
theorem UB (z:List D):SOp.isSt (.clr z)=false:=rfl
theorem OZ (r:RK):SOp.quiet (.mkR r)=false:=rfl
theorem TP (t kc:Nat) (n:Option Nat):SOp.quiet (.mset t kc n)=false:=rfl
theorem Na (e:Nat):SOp.quiet (.s2b e)=false:=rfl
theorem O8 (z:List D):SOp.quiet (.clr z)=false:=rfl
end
def cP {α β:Type} (c:Enc α) (c':Enc β):Enc (α×β) where
 sz:=c.sz+c'.sz
 enc p:=c.enc p.1++c'.enc p.2
 dec xs:=(c.dec (xs.take c.sz)).bind fun a=>(c'.dec (xs.drop c.sz)).bind fun b=>some (a,b)
 len p:=by simp [c.len,c'.len]
 pos:=by have:=c.pos; omega
 dcd:=by
  intro xs x h
  obtain ⟨a,h1,h⟩:=Option.bind_eq_some_iff.mp h
  obtain ⟨b,h2,h⟩:=Option.bind_eq_some_iff.mp h
  cases h
  rw [← c.dcd _ _ h1,← c'.dcd _ _ h2,List.take_append_drop]
 edc p:=by
  have h1:(c.enc p.1++c'.enc p.2).take c.sz=c.enc p.1:=by rw [← c.len p.1]; exact List.take_left
  have h2:(c.enc p.1++c'.enc p.2).drop c.sz=c'.enc p.2:=by rw [← c.len p.1]; exact List.drop_left
  rw [h1,h2,c.edc,c'.edc]; rfl
def o9 {α β:Type} [DecidableEq α] (l:List (α×β)) (k:α):Option β:=match l with
 | []=>none
 | p :: l=>if p.1=k then some p.2 else o9 l k
def nZ {α β:Type} [DecidableEq α] (l:List (α×β)) (k:α) (v:β):List (α×β):=match l with
 | []=>[(k,v)]
 | p :: l=>if p.1=k then (k,v) :: l else p :: nZ l k v
structure KeyE {α:Type} (c:Enc α) (kc:Nat) where
 d:α→D
 enc:∀ a,c.enc a=[d a]
 ok:∀ a,wj kc (d a)=true
 eq:∀ [DecidableEq α] (a b:α),wI (d a) (d b)=some (decide (b=a))
theorem KeyE.sz {α:Type} {c:Enc α} {kc:Nat} (K:KeyE c kc) (a:α):c.sz=1:=by rw [← c.len a,K.enc]; rfl
section
variable {α β:Type} [DecidableEq α] {c:Enc α} {c':Enc β} {kc:Nat} (K:KeyE c kc)
theorem nv (K:KeyE c kc) (p:α×β) (l:List (α×β)):zf (cP c c') (p :: l)=K.d p.1 :: (c'.enc p.2++zf (cP c c') l):=by
 simp [zf,cP,K.enc]
theorem bl (k:α):∀ (l:List (α×β)),pH c'.sz (K.d k) l.length (zf (cP c c') l)=some ((o9 l k).map c'.enc)
 | []=>rfl
 | p :: l=>by
   have h1:(c'.enc p.2++zf (cP c c') l).take c'.sz=c'.enc p.2:=by rw [← c'.len p.2]; exact List.take_left
   have h2:(c'.enc p.2++zf (cP c c') l).drop c'.sz=zf (cP c c') l:=by rw [← c'.len p.2]; exact List.drop_left
   rw [nv K,List.length_cons]
   simp only [pH,K.eq,Option.bind_some,o9,h1,h2,decide_eq_true_eq]
   split
   ·rfl
   ·exact bl k l
theorem Y9 (k:α) (v:β):∀ (l:List (α×β)),oo c'.sz (K.d k) (c'.enc v) l.length (zf (cP c c') l)=some (zf (cP c c') (nZ l k v))
 | []=>by
   rw [nZ,nv K]
   simp [oo,zf]
 | p :: l=>by
   have h1:(c'.enc p.2++zf (cP c c') l).take c'.sz=c'.enc p.2:=by rw [← c'.len p.2]; exact List.take_left
   have h2:(c'.enc p.2++zf (cP c c') l).drop c'.sz=zf (cP c c') l:=by rw [← c'.len p.2]; exact List.drop_left
   rw [nv K,List.length_cons]
   simp only [oo,K.eq,Option.bind_some,h1,h2,decide_eq_true_eq,nZ]
   split
   ·rw [nv K]; rfl
   ·rw [Y9 k v l,nv K]; rfl
theorem jl (n:Option Nat) (hn:msz n=c'.sz) (hc:c.sz=1) (l:List (α×β)):ua n (zb (cP c c') l)=some (l.length,zf (cP c c') l):=by
 unfold ua zb
 have:(zf (cP c c') l).length=l.length * (1+msz n):=by rw [yI,hn]; show l.length * (c.sz+c'.sz)=_; rw [hc]
 simp only
 rw [if_pos this]
theorem bg (t:TypeId) (n:Option Nat) (hn:msz n=c'.sz) (hc:c.sz=1) (zs:List D) (z:β) (hz:c'.dec zs=some z) (wo:Bool) (l:List (α×β)) (k:α):
  iz (.map t n,zb (cP c c') l) t kc n zs wo (K.d k)=(rV n (c'.enc ((o9 l k).getD z))).bind fun a=>some (.val (if wo=true then .tup [a,.d (.bool (o9 l k).isSome)] else a) []):=by
 obtain rfl:=c'.dcd _ _ hz
 unfold iz
 rw [if_pos ⟨rfl,K.ok k⟩]
 simp only [jl n hn hc,Option.bind_some,hn,bl K k l]
 cases o9 l k <;> rfl
theorem be (t:TypeId) (n:Option Nat) (hn:msz n=c'.sz) (hc:c.sz=1) (xs:List D) (v:β) (hv:c'.dec xs=some v) (l:List (α×β)) (k:α):
  oI (.map t n,zb (cP c c') l) t kc n xs (K.d k)=some (zb (cP c c') (nZ l k v)):=by
 obtain rfl:=c'.dcd _ _ hv
 unfold oI
 rw [if_pos ⟨rfl,K.ok k⟩]
 simp only [jl n hn hc,Option.bind_some,hn,Y9 K k v l,c'.len,if_true]
 have:(zf (cP c c') (nZ l k v)).length / (1+c'.sz)=(nZ l k v).length:=by
  rw [yI]; show _ * (c.sz+c'.sz) / _=_; rw [hc]; exact Nat.mul_div_cancel _ (by omega)
 rw [this]; rfl
theorem bC (t:TypeId) (n:Option Nat) (hn:msz n=c'.sz) (hc:c.sz=1) (l:List (α×β)):f9 (.map t n,zb (cP c c') l)=some (l.length:Int):=by
 unfold f9
 simp only [jl n hn hc,Option.bind_some]
theorem Tw (t:TypeId) (n:Option Nat):O.res (.map t n) (.lst 0 [])= .res (.map t n) (zb (cP c c') []):=rfl
end
def kI:KeyE cI 0:=⟨fun a=> .int .i64 a,fun _=>rfl,fun _=>rfl,fun a b=>by
 simp only [wI,if_true,Option.some.injEq]
 by_cases h:a=b
 ·subst h; simp
 ·simp [h,Ne.symm h]⟩
def kS:KeyE cS 1:=⟨fun a=>sD a,fun _=>rfl,fun _=>rfl,fun a b=>by
 simp only [wI,sD,Option.some.injEq]
 by_cases h:a=b
 ·subst h; simp
 ·simp [h,Ne.symm h]⟩
theorem Sb (x:D):rV none [x]=some (.d x):=rfl
theorem TC (n:Nat) (xs:List D):rV (some n) xs=if xs.length=n then some (.agg (xs.map .d)) else none:=rfl
theorem Sj {β:Type} {c':Enc β} (t:TypeId) (n:Option Nat) (hn:msz n=c'.sz) (zs:List D) (z:β) (hz:c'.dec zs=some z) (wo:Bool) (l:List (Int×β)) (k:Int):
  iz (.map t n,zb (cP cI c') l) t 0 n zs wo (.int .i64 k)=(rV n (c'.enc ((o9 l k).getD z))).bind fun a=>some (.val (if wo=true then .tup [a,.d (.bool (o9 l k).isSome)] else a) []):=bg kI t n hn rfl zs z hz wo l k
theorem RS {β:Type} {c':Enc β} (t:TypeId) (n:Option Nat) (hn:msz n=c'.sz) (l:List (Int×β)) (k:Int) (xs:List D):oI (.map t n,zb (cP cI c') l) t 0 n xs (.int .i64 k)=
  (c'.dec xs).elim (oI (.map t n,.lst l.length (zf (cP cI c') l)) t 0 n xs (.int .i64 k)) fun v=>some (zb (cP cI c') (nZ l k v)):=by
 cases h:c'.dec xs with
 | none=>rfl
 | some v=>exact be kI t n hn rfl xs v h l k
theorem Rh {β:Type} {c':Enc β} (t:TypeId) (n:Option Nat) (hn:msz n=c'.sz) (zs:List D) (z:β) (hz:c'.dec zs=some z) (wo:Bool) (l:List (List UInt8×β)) (k:List UInt8):
  iz (.map t n,zb (cP cS c') l) t 1 n zs wo (sD k)=(rV n (c'.enc ((o9 l k).getD z))).bind fun a=>some (.val (if wo=true then .tup [a,.d (.bool (o9 l k).isSome)] else a) []):=bg kS t n hn rfl zs z hz wo l k
theorem Ss {β:Type} {c':Enc β} (t:TypeId) (n:Option Nat) (hn:msz n=c'.sz) (l:List (List UInt8×β)) (k:List UInt8) (xs:List D):oI (.map t n,zb (cP cS c') l) t 1 n xs (sD k)=
  (c'.dec xs).elim (oI (.map t n,.lst l.length (zf (cP cS c') l)) t 1 n xs (sD k)) fun v=>some (zb (cP cS c') (nZ l k v)):=by
 cases h:c'.dec xs with
 | none=>rfl
 | some v=>exact be kS t n hn rfl xs v h l k
def LW {β:Type} (c':Enc β) (t:TypeId) (n:Option Nat) (hn:msz n=c'.sz) (zs:List D) (z:β) (hz:c'.dec zs=some z):=
 And.intro (Sj (c':=c') t n hn zs z hz) <|
 And.intro (fun l k xs=>RS (c':=c') t n hn l k xs) <| And.intro (fun l=>bC (c:=cI) (c':=c') t n hn rfl l) (Tw (c:=cI) (c':=c') t n)
def LT {β:Type} (c':Enc β) (t:TypeId) (n:Option Nat) (hn:msz n=c'.sz) (zs:List D) (z:β) (hz:c'.dec zs=some z):=
 And.intro (Rh (c':=c') t n hn zs z hz) <|
 And.intro (fun l k xs=>Ss (c':=c') t n hn l k xs) <| And.intro (fun l=>bC (c:=cS) (c':=c') t n hn rfl l) (Tw (c:=cS) (c':=c') t n)
end Go.Vm
