/- The rules by which a call is rewritten into a plain Lean function, bundled. -/
import Derived.Test.YtpjfklhaogdfeaaDoorVmObj
set_option linter.unusedSectionVars false
set_option linter.unusedSimpArgs false
set_option linter.unusedVariables false
namespace Go.Vm
def gS (E:En) (k:List KJ) (st:St):Option XOut:=zF E k (.normal,st)
def gE (E:En) (k:List KJ) (e:Ex) (st:St):Option XOut:=zF E k (e,st)
@[congr] theorem MO {E:En} {k:List KJ} {st st':St} (h:st=st'):gS E k st=gS E k st':=by rw [h]
@[congr] theorem Mz {α:Type} {c c':Option Bool} {x y:Option α} (h:c=c'):gIf c x y=gIf c' x y:=by rw [h]
@[congr] theorem NC {E:En} {d:Option Nat} {x x':Option Out} {l:List SOper} {k:List KJ} {st:St} (h:x=x'):wM E d x l k st=wM E d x' l k st:=by rw [h]
@[congr] theorem Nm {E:En} {v:List Nat} {d:Option Nat} {op:SOp} {x x':Option Out} {l:List SOper} {k:List KJ} {st:St} (h:x=x'):
   z6 E v d op x l k st=z6 E v d op x' l k st:=by rw [h]
@[congr] theorem Lh {E:En} {keep:List Nat} {b:Cd} {m:Nat} {k:List KJ} {x x':Option St} (h:x=x'):gC E keep b m k x=gC E keep b m k x':=by rw [h]
def sel {α:Type} (c:Bool) (x y:α):α:=match c with
 | true=>x
 | false=>y
@[congr] theorem Mt {α:Type} {c c':Bool} {x y:α} (h:c=c'):sel c x y=sel c' x y:=by rw [h]
theorem LU {α:Type} (x y:α):sel true x y=x:=rfl
theorem LP {α:Type} (x y:α):sel false x y=y:=rfl
theorem bz {α:Type} (f:Nat→α) (n m:Nat) (v:α):upd f n v m=sel (m == n) v (f m):=by
 unfold upd sel
 by_cases h:m=n
 ·subst h; simp
 ·rw [if_neg h]
  have:(m == n)=false:=by simpa using h
  rw [this]
theorem Mq (i:Nat) (a:A) (r:List (Nat×A)) (n:Nat):zh ((i,a) :: r) n=sel (n == i) a (zh r n):=bz (zh r) i n a
theorem LA (i:Nat) (o:Ob) (r:List (Nat×Ob)) (n:Nat):zt ((i,o) :: r) n=sel (n == i) o (zt r n):=bz (zt r) i n o
@[congr] theorem ND {Γ:Ctx} {ob:Nat→Ob} {d:Nat} {op:SOp} {as as':List A} (h:as=as'):eval Γ ob d op as=eval Γ ob d op as':=by rw [h]
section
variable {E:En} {k:List KJ} {st:St} {s:Nat→A} {ob:Nat→Ob}
theorem RT (l:List (Nat×A)) (ob:Nat→Ob):gS E k ⟨zh l,ob⟩=zF E k (.normal,⟨zh l,ob⟩):=rfl
theorem MV (live:List Nat):zF E (.v live :: k) (.normal,st)=gS E k ⟨zh (live.map fun n=>(n,st.slot n)),st.ob⟩:=rfl
theorem Nj (live:List Nat):o7 E live k (.normal,st)=zF E (.v live :: k) (.normal,st):=rfl
theorem RU (live:List Nat) (x:D):o7 E live k (.panic x,st)=zF E k (.panic x,st.forget E.ps):=rfl
theorem TQ (keep:List Nat) (b:Cd) (m:Nat):gL E keep b m k st=gC E keep b m k (canon E.ps keep st):=NB keep b m
theorem TA {α:Type} (b:Bool) (x y:Option α):gIf (some b) x y=if b=true then x else y:=by cases b <;> rfl
theorem Tm {α:Type} (x y:Option α):gIf (some true) x y=x:=rfl
theorem Tp {α:Type} (x y:Option α):gIf (some false) x y=y:=rfl
theorem zz {α β:Type} (p:Prop) [Decidable p] (x y:Option α) (f:α→Option β):(if p then x else y).bind f=if p then x.bind f else y.bind f:=by split <;> rfl
theorem LX (b:Bool):(b=true)=(b=true):=rfl
def dR (fl:TypeId→Bool) (ob:Nat→Ob) (d:Nat) (ls ms:List Nat) (x:Option XOut):Option Out:=x.bind fun
    | .ret x outs=>(yq ob ms outs).map fun bs=> .val (yi (za ob bs) ms x (ofX (za ob bs) d x 0).1) ((if yd fl x&&outs.all tZ then [] else zg ob ls)++(bs++(ofX (za ob bs) d x 0).2.1))
    | .pan x outs=>(yq ob ms outs).map fun bs=> .pan x (zg ob ls++bs)
def iI (c:Bool) (ob:Nat→Ob) (ls:List Nat):List (Nat×Ob):=if c=true then [] else zg ob ls
@[congr] theorem Nu {c c':Bool} {ob:Nat→Ob} {ls:List Nat} (h:c=c'):iI c ob ls=iI c' ob ls:=by rw [h]
theorem Y8 (ob:Nat→Ob) (ls:List Nat):iI true ob ls=[]:=rfl
theorem YA (c:Bool) (ob:Nat→Ob):iI c ob []=[]:=by cases c <;> rfl
theorem Wi (ob:Nat→Ob) (ls:List Nat):iI false ob ls=zg ob ls:=rfl
theorem SY (fl:TypeId→Bool) (x:D):yd fl (.d x)=x.flat:=by simp only [yd]
theorem Xm (fl:TypeId→Bool):yd fl .nil=true:=by simp only [yd]
theorem Z8 (fl:TypeId→Bool) (xs:List X):yd fl (.agg xs)=vW fl xs:=by simp only [yd]
theorem YM (fl:TypeId→Bool) (xs:List X):yd fl (.tup xs)=vW fl xs:=by simp only [yd]
theorem XA (fl:TypeId→Bool) (xs:List X):yd fl (.box xs)=vW fl xs:=by simp only [yd]
theorem ad (fl:TypeId→Bool):vW fl []=true:=by simp only [vW]
theorem cv (fl:TypeId→Bool) (x:X) (xs:List X):vW fl (x :: xs)=(yd fl x&&vW fl xs):=by simp only [vW]
theorem UY (k:IntKind) (n:Int):(D.int k n).flat=true:=rfl
theorem Yz (b:Bool):(D.bool b).flat=true:=rfl
theorem Va (l:List UInt8):(sD l).flat=true:=rfl
theorem RG (f:FuncId):(D.fn f).flat=true:=rfl
theorem X9:D.nilp.flat=true:=rfl
theorem Y0:D.nilf.flat=true:=rfl
theorem Z4:D.nili.flat=true:=rfl
theorem Zz (t:TypeId) (x:D):(D.iface t x).flat=false:=rfl
theorem cA (t:TypeId) (x:List D):(D.ifaceS t x).flat=false:=rfl
theorem Z7:(D.lst 0 []).flat=false:=rfl
theorem Ol {α:Type} (c:Enc α) (l:List α):(zb c l).flat=false:=rfl
theorem au (ds:List D):tZ ds=ds.all D.flat:=rfl
def dC (Γ:Ctx) (ob:Nat→Ob) (d:Nat) (f:FuncId) (x:Option (List X×List Nat×List Nat)):Option Out:=x.bind fun p=>
 if zC p.2.2&&!(p.2.2.any fun m=>p.2.1.any (· == m)) then dR Γ.fl ob d p.2.1 p.2.2 (Γ f p.1) else none
@[congr] theorem M0 {fl:TypeId→Bool} {ob:Nat→Ob} {d:Nat} {ls ms:List Nat} {x x':Option XOut} (h:x=x'):dR fl ob d ls ms x=dR fl ob d ls ms x':=by rw [h]
@[congr] theorem MT {Γ:Ctx} {ob:Nat→Ob} {d:Nat} {f:FuncId} {x x':Option (List X×List Nat×List Nat)} (h:x=x'):dC Γ ob d f x=dC Γ ob d f x':=by rw [h]
theorem cX (Γ:Ctx) (ob:Nat→Ob) (d:Nat) (as:List A):eval Γ ob d .dyn (.d .nilf :: as)=none:=rfl
theorem Ui (Γ:Ctx) (ob:Nat→Ob) (d:Nat) (f:FuncId) (as:List A):eval Γ ob d (.call f) as=dC Γ ob d f (wO (Γ.mu f) ob as):=rfl
theorem T8 (Γ:Ctx) (ob:Nat→Ob) (d:Nat) (f:FuncId) (as:List A):eval Γ ob d .dyn (.d (.fn f) :: as)=dC Γ ob d f (wO (Γ.mu f) ob as):=rfl
theorem SF (Γ:Ctx) (ob:Nat→Ob) (d:Nat) (f:FuncId) (xs:List X) (ls ms:List Nat):dC Γ ob d f (some (xs,ls,ms))=
  if (zC ms&&!(ms.any fun m=>ls.any (· == m)))=true then dR Γ.fl ob d ls ms (Γ f xs) else none:=rfl
theorem Rk {α:Type} (fl:TypeId→Bool) (ob:Nat→Ob) (d:Nat) (ls ms:List Nat) (x:Option α) (f:α→Option XOut):dR fl ob d ls ms (x.bind f)=x.bind fun y=>dR fl ob d ls ms (f y):=by
 unfold dR; rw [Option.bind_assoc]
theorem PU (fl:TypeId→Bool) (ob:Nat→Ob) (d:Nat) (ls ms:List Nat) (x:X) (outs:List (List D)):dR fl ob d ls ms (some (.ret x outs))=
  (yq ob ms outs).bind fun bs=>some (.val (yi (za ob bs) ms x (ofX (za ob bs) d x 0).1) (iI (yd fl x&&outs.all tZ) ob ls++(bs++(ofX (za ob bs) d x 0).2.1))):=by
 simp only [dR,Option.bind_some]; cases yq ob ms outs <;> rfl
theorem QU (fl:TypeId→Bool) (ob:Nat→Ob) (d:Nat) (ls ms:List Nat) (x:D) (outs:List (List D)):dR fl ob d ls ms (some (.pan x outs))=
  (yq ob ms outs).bind fun bs=>some (.pan x (zg ob ls++bs)):=by
 simp only [dR,Option.bind_some]; cases yq ob ms outs <;> rfl
theorem RQ (fl:TypeId→Bool) (ob:Nat→Ob) (d:Nat) (ls ms:List Nat):dR fl ob d ls ms none=none:=rfl
theorem Y7 (ob:Nat→Ob):yq ob [] []=some []:=rfl
theorem aj (ob:Nat→Ob) (id:Nat) (r:List Nat) (ds:List D) (xs:List (List D)):yq ob (id :: r) (ds :: xs)=
  (sY (ob id) ds).bind fun x=>(yq ob r xs).bind fun y=>some ((id,x) :: y):=by
 simp only [yq]
 cases sY (ob id) ds with
 | none=>rfl
 | some x=>cases yq ob r xs <;> rfl
theorem XI (v:Nat) (cells:List A) (lk:Bool) (ds:List D):sY ⟨v,.box cells,lk⟩ ds=some ⟨v,.box (ds.map dA),false⟩:=rfl
theorem YT (ob:Nat→Ob):zg ob []=[]:=rfl
theorem ZC (ob:Nat→Ob) (i:Nat) (r:List Nat):zg ob (i :: r)=(i,⟨(ob i).ver,(ob i).o,true⟩) :: zg ob r:=rfl
theorem NE (m:Bool) (x:D):toX m ob (.d x)=some (.d x,[],[]):=rfl
theorem UI:toX false ob .nil=some (.d (.lst 0 []),[],[]):=rfl
theorem VP:toX true ob .nil=some (.nil,[],[]):=rfl
theorem Ry (m:Bool) (cs:List A):toX m ob (.agg cs)=(wO m ob cs).bind fun p=>some (.agg p.1,p.2.1,p.2.2):=by
 simp only [toX]; cases wO m ob cs <;> rfl
theorem W0 (m:Bool):wO m ob []=some ([],[],[]):=rfl
theorem Yr (m:Bool) (a:A) (r:List A):wO m ob (a :: r)=(toX m ob a).bind fun p=>(wO m ob r).bind fun q=>some (p.1 :: q.1,p.2.1++q.2.1,p.2.2++q.2.2):=by
 simp only [wO]
 cases toX m ob a with
 | none=>rfl
 | some p=>obtain ⟨x,l,k⟩:=p; cases wO m ob r <;> rfl
theorem dy:xD []=some []:=rfl
theorem bQ (x:D) (r:List A):xD (.d x :: r)=(xD r).bind fun y=>some (x :: y):=by
 simp only [xD]; cases xD r <;> rfl
theorem OG (x:D):yk ob (.d x)=some (x,[]):=rfl
theorem W5:yk ob .nil=some (.lst 0 [],[]):=rfl
theorem Y5:zR ob []=some ([],[]):=rfl
theorem ak (a:A) (r:List A):zR ob (a :: r)=(yk ob a).bind fun p=>(zR ob r).bind fun q=>some (p.1 :: q.1,p.2++q.2):=by
 simp only [zR]
 cases yk ob a with
 | none=>rfl
 | some p=>obtain ⟨x,l⟩:=p; cases zR ob r <;> rfl
theorem N0 (d:Nat) (x:D) (j:Nat):ofX ob d (.d x) j=(.d x,[],j):=rfl
theorem Re (d:Nat) (j:Nat):ofX ob d .nil j=(.nil,[],j):=rfl
theorem S8 (d:Nat) (k j:Nat):ofX ob d (.par k) j=(.undef,[],j):=rfl
theorem Xw (fl:TypeId→Bool) (k:Nat):yd fl (.par k)=true:=by simp only [yd]
theorem OV (ms:List Nat) (x:D) (a:A):yi ob ms (.d x) a=a:=by cases a <;> rfl
theorem Vo (ms:List Nat) (a:A):yi ob ms .nil a=a:=by cases a <;> rfl
theorem WG (ms:List Nat) (e s n:Nat) (c:Option Nat) (cells:List D) (lk:Bool) (a:A):yi ob ms (.own e s n c cells lk) a=a:=by cases a <;> rfl
theorem Vc (ms:List Nat) (xs:List X) (a:A):yi ob ms (.box xs) a=a:=by cases a <;> rfl
theorem V7 (ms:List Nat) (xs:List X) (as:List A):yi ob ms (.agg xs) (.agg as)= .agg (tm ob ms xs as):=rfl
theorem UT (ms:List Nat) (xs:List X) (as:List A):yi ob ms (.tup xs) (.tup as)= .tup (tm ob ms xs as):=rfl
def aI (ob:Nat→Ob) (o:Option Nat):A:=match o with
 | some id=> .row id (ob id).ver
 | none=> .undef
@[congr] theorem Nr {ob:Nat→Ob} {o o':Option Nat} (h:o=o'):aI ob o=aI ob o':=by rw [h]
theorem Xq (id:Nat):aI ob (some id)= .row id (ob id).ver:=rfl
theorem UE (ms:List Nat) (k:Nat) (a:A):yi ob ms (.par k) a=aI ob (ms[k]?):=by cases a <;> rfl
theorem XX (ms:List Nat) (as:List A):tm ob ms [] as=as:=by cases as <;> rfl
theorem ZT (ms:List Nat) (x:X) (xs:List X) (a:A) (as:List A):tm ob ms (x :: xs) (a :: as)=yi ob ms x a :: tm ob ms xs as:=rfl
theorem SE (d:Nat) (xs:List X) (j:Nat):ofX ob d (.agg xs) j=(.agg (yh ob d xs j).1,(yh ob d xs j).2.1,(yh ob d xs j).2.2):=rfl
theorem Sf (d:Nat) (xs:List X) (j:Nat):ofX ob d (.tup xs) j=(.tup (yh ob d xs j).1,(yh ob d xs j).2.1,(yh ob d xs j).2.2):=rfl
theorem RC (d:Nat) (xs:List X) (j:Nat):ofX ob d (.box xs) j=(.adr (oid d j) ((ob (oid d j)).ver+1) 0,(yh ob d xs (j+1)).2.1++[(oid d j,⟨(ob (oid d j)).ver+1,.box (yh ob d xs (j+1)).1,false⟩)],(yh ob d xs (j+1)).2.2):=rfl
theorem WB (d:Nat) (j:Nat):yh ob d [] j=([],[],j):=rfl
theorem Xi (d:Nat) (x:X) (r:List X) (j:Nat):yh ob d (x :: r) j=((ofX ob d x j).1 :: (yh ob d r (ofX ob d x j).2.2).1,(ofX ob d x j).2.1++(yh ob d r (ofX ob d x j).2.2).2.1,(yh ob d r (ofX ob d x j).2.2).2.2):=rfl
theorem U6 {α:Type} (x:Option α) (f:α→Option XOut):fin E (x.bind f)=x.bind fun y=>fin E (f y):=by unfold fin; rw [Option.bind_assoc]
theorem US (y:XOut):fin E (some y)=E.wk y:=rfl
theorem UM:fin E none=none:=rfl
theorem Sl (p:Prop) [Decidable p] (x y:Option XOut):fin E (if p then x else y)=if p then fin E x else fin E y:=by split <;> rfl
theorem So (x:D):ux (.d x)=true:=rfl
theorem XR:ux .nil=true:=rfl
theorem ZY (e s n:Nat) (c:Option Nat) (cells:List D) (lk:Bool):ux (.own e s n c cells lk)=true:=rfl
theorem Yn (k:RK) (x:D):ux (.res k x)=true:=rfl
theorem X3 (ps:List Nat) (rs:List RV):rU ps rs (.ret,st)=(Vm.results ps st rs).bind fun x=>(wR st.ob ps).bind fun y=>
   if (zC x.2&&!(x.2.any fun m=>y.2.any (· == m)||ps.any (· == m)))=true then some (.ret x.1 y.1) else none:=rfl
theorem ZI (ps:List Nat) (rs:List RV):rU ps rs (.normal,st)=(Vm.results ps st rs).bind fun x=>(wR st.ob ps).bind fun y=>
   if (zC x.2&&!(x.2.any fun m=>y.2.any (· == m)||ps.any (· == m)))=true then some (.ret x.1 y.1) else none:=rfl
theorem Xk (ps:List Nat) (rs:List RV) (x:D):rU ps rs (.panic x,st)=(wR st.ob ps).bind fun y=>some (.pan x y.1):=by
 simp only [rU]; cases wR st.ob ps <;> rfl
theorem cG (ps:List Nat) (rs:List RV):Vm.results ps st rs=(sI st rs).bind (nR ps st.ob):=rfl
theorem bV:sI st []=some []:=rfl
theorem cZ (r:RV) (rs:List RV):sI st (r :: rs)=(r.get st).bind fun a=>(sI st rs).bind fun y=>some (a :: y):=by
 simp only [sI]
 cases r.get st with
 | none=>rfl
 | some a=>cases sI st rs <;> rfl
theorem Od (t:Nat):RV.get ⟨s,ob⟩ (.tmp t)=some (s t):=rfl
def aY (ob:Nat→Ob) (n:Option Nat) (a:A):Option A:=match a with
 | .adr id ver 0=>(pp (ob id) ver).bind fun cells=>match n with
     | none=>cells[0]?
     | some n=>if n ≤ cells.length then some (.agg (cells.take n)) else none
 | _=>none
theorem SO (t:Nat) (n:Option Nat):RV.get ⟨s,ob⟩ (.cell t n)=aY ob n (s t):=rfl
theorem RB (id ver:Nat):aY ob none (.adr id ver 0)=(pp (ob id) ver).bind fun cells=>cells[0]? :=rfl
theorem SW (id ver n:Nat):aY ob (some n) (.adr id ver 0)=(pp (ob id) ver).bind fun cells=>if n ≤ cells.length then some (.agg (cells.take n)) else none:=rfl
theorem Yi (i:Nat):rn [] i=none:=rfl
theorem ZL (p:Nat) (ps:List Nat) (i:Nat):rn (p :: ps) i=if i=p then some 0 else (rn ps i).map (· +1):=rfl
theorem W6 (ps:List Nat) (a:A):nR ps ob [a]=qg ps ob a:=rfl
theorem Uv (ps:List Nat):nR ps ob []=some (.tup [],[]):=rfl
theorem Ws (ps:List Nat) (a b:A) (r:List A):nR ps ob (a :: b :: r)=(xM ps ob (a :: b :: r)).bind fun x=>some (.tup x.1,x.2):=by
 show (xM ps ob (a :: b :: r)).map _=_
 cases xM ps ob (a :: b :: r) <;> rfl
theorem Tj (ps:List Nat) (x:D):qg ps ob (.d x)=some (.d x,[]):=rfl
theorem ab (ps:List Nat):qg ps ob .nil=some (.nil,[]):=rfl
theorem an (ps:List Nat) (id ver:Nat):qg ps ob (.row id ver)=m7 (rn ps id) (ob id) id ver:=by
 show vS ps ob (.row id ver)=_
 rw [dB]
theorem aP (ps:List Nat) (cs:List A):qg ps ob (.agg cs)=(xM ps ob cs).bind fun x=>some (.agg x.1,x.2):=by
 show (xM ps ob cs).map _=_
 cases xM ps ob cs <;> rfl
theorem O2 (ps:List Nat) (x:D):vS ps ob (.d x)=some (.d x,[]):=rfl
theorem U2 (ps:List Nat):vS ps ob .nil=some (.nil,[]):=rfl
theorem Td (ps:List Nat) (cs:List A):vS ps ob (.agg cs)=(xM ps ob cs).bind fun x=>some (.agg x.1,x.2):=by
 simp only [vS]; cases xM ps ob cs <;> rfl
theorem Z9 (ps:List Nat):xM ps ob []=some ([],[]):=rfl
theorem Zg (ps:List Nat) (a:A) (r:List A):xM ps ob (a :: r)=(vS ps ob a).bind fun x=>(xM ps ob r).bind fun y=>some (x.1 :: y.1,x.2++y.2):=by
 simp only [xM]
 cases vS ps ob a with
 | none=>rfl
 | some p=>cases xM ps ob r <;> rfl
theorem a8 (v:Nat) (cells:List A) (lk:Bool):qQ ob ⟨v,.box cells,lk⟩=if v=1 then sw ob cells else none:=rfl
theorem TG (x:D):pC ob (.d x)=some (x,[]):=rfl
theorem YR:pC ob .nil=some (.nils,[]):=rfl
theorem Xr (id ver:Nat):pC ob (.row id ver)=jT (ob id) id ver:=rfl
theorem aB:sw ob []=some ([],[]):=rfl
theorem cy (a:A) (r:List A):sw ob (a :: r)=(pC ob a).bind fun p=>(sw ob r).bind fun q=>some (p.1 :: q.1,p.2++q.2):=by
 simp only [sw]
 cases pC ob a with
 | none=>rfl
 | some p=>obtain ⟨x,l⟩:=p; cases sw ob r <;> rfl
theorem PM (k:IntKind) (n:Int):dA (.int k n)= .d (.int k n):=rfl
theorem TV (b:Bool):dA (.bool b)= .d (.bool b):=rfl
theorem Qu (l:List UInt8):dA (sD l)= .d (sD l):=rfl
theorem NY (f:FuncId):dA (.fn f)= .d (.fn f):=rfl
theorem MK {α:Type} (c:Enc α) (l:List α):dA (zb c l)= .d (zb c l):=rfl
theorem Sn:dA (.lst 0 [])= .d (.lst 0 []):=rfl
theorem Mb (n:Int):dA (iD n)= .d (.int .i64 n):=rfl
theorem TF:dA .nils= .nil:=rfl
theorem Rf:dA .nilp= .d .nilp:=rfl
theorem Ru:dA .nilf= .d .nilf:=rfl
theorem SZ:dA .nili= .d .nili:=rfl
theorem Wm (t:TypeId) (x:D):dA (.iface t x)= .d (.iface t x):=rfl
theorem Yf (t:TypeId) (x:List D):dA (.ifaceS t x)= .d (.ifaceS t x):=rfl
theorem XW:D.nils.flat=true:=rfl
theorem dN (ps:List Nat):wR ob ps=(vV ob ps).bind fun y=>if y.2.any (fun m=>ps.any (· == m))=true then none else some y:=rfl
theorem bb:vV ob []=some ([],[]):=rfl
theorem eQ (id:Nat) (r:List Nat):vV ob (id :: r)=(qQ ob (ob id)).bind fun x=>(vV ob r).bind fun y=>some (x.1 :: y.1,x.2++y.2):=by
 simp only [vV]
 cases qQ ob (ob id) with
 | none=>rfl
 | some p=>simp only [Option.bind_some]; cases vV ob r <;> rfl
theorem Z0:uG ob []=true:=rfl
theorem ZE (id:Nat) (k:KO) (r:List (Nat×KO)):uG ob ((id,k) :: r)=(qX (ob id) k&&uG ob r):=rfl
theorem Y3 (i:Nat):enter i []=([],[]):=rfl
theorem aQ (i:Nat) (x:X) (r:List X):enter i (x :: r)=((i,(ofX (fun _=>{}) i x 0).1) :: (enter (i+1) r).1,(ofX (fun _=>{}) i x 0).2.1++(enter (i+1) r).2):=rfl
def iH (ps keep:List Nat) (st:St) (m:List (Nat×Nat)):Option St:=
 if (zC (m.map (·.1))&&zC (m.map (·.2))&&m.all (fun p=>pG m st.ob (st.ob p.1).o)&&ps.all (fun p=>uk m p == some p&&(st.ob p).ver == 1))=true then
  some ⟨zh (keep.map fun n=>(n,uW m st.ob (st.slot n))),zt (m.map fun p=>(p.2,⟨1,ra m st.ob (st.ob p.1).o,(st.ob p.1).leak⟩))⟩ else none
@[congr] theorem OY {ps keep:List Nat} {st:St} {m m':List (Nat×Nat)} (h:m=m'):iH ps keep st m=iH ps keep st m':=by rw [h]
theorem RL (ps keep:List Nat):canon ps keep st=iH ps keep st (se keep st):=rfl
theorem Yu (ps keep:List Nat) (m:List (Nat×Nat)):iH ps keep ⟨s,ob⟩ m=
 if (zC (m.map (·.1))&&zC (m.map (·.2))&&m.all (fun p=>pG m ob (ob p.1).o)&&ps.all (fun p=>uk m p == some p&&(ob p).ver == 1))=true then
  some ⟨zh (keep.map fun n=>(n,uW m ob (s n))),zt (m.map fun p=>(p.2,⟨1,ra m ob (ob p.1).o,(ob p.1).leak⟩))⟩ else none:=rfl
theorem U4 (keep:List Nat):se keep ⟨s,ob⟩=nl [] (keep.flatMap fun n=>ph ob (oid n 0) (s n)):=rfl
def To (ob:Nat→Ob) (x:Ob) (base id ver:Nat):List (Nat×Nat):=match x.o with
 | .box cells=>if x.ver=ver then (id,base) :: tg ob (base+1) cells else []
 | _=>[]
theorem Pz (base:Nat) (x:D):ph ob base (.d x)=[]:=rfl
theorem Um (base:Nat):ph ob base .nil=[]:=rfl
theorem ZB (base:Nat):ph ob base .undef=[]:=rfl
theorem SU (base:Nat) (cs:List D):ph ob base (.cp cs)=[]:=rfl
theorem Uf (base id ver:Nat):ph ob base (.row id ver)=if (ob id).ver=ver then [(id,base)] else []:=rfl
theorem UC (base id ver o:Nat):ph ob base (.rad id ver o)=[]:=rfl
theorem UQ (base:Nat) (cs:List A):ph ob base (.tup cs)=[]:=rfl
theorem UU (base id ver o:Nat):ph ob base (.adr id ver o)=To ob (ob id) base id ver:=rfl
theorem UW (base:Nat) (cs:List A):ph ob base (.agg cs)=tg ob (base+1) cs:=rfl
theorem XJ (base id ver v:Nat) (cells:List A) (lk:Bool):To ob ⟨v,.box cells,lk⟩ base id ver=if v=ver then (id,base) :: tg ob (base+1) cells else []:=rfl
theorem dw (base:Nat):tg ob base []=[]:=rfl
theorem fE (base:Nat) (a:A) (r:List A):tg ob base (a :: r)=pL ob base a++tg ob (base+1) r:=rfl
theorem YS (base:Nat) (x:D):pL ob base (.d x)=[]:=rfl
theorem cD (base:Nat):pL ob base .nil=[]:=rfl
theorem ba (base id ver:Nat):pL ob base (.row id ver)=if (ob id).ver=ver then [(id,base)] else []:=rfl
theorem Zm (acc:List (Nat×Nat)):nl acc []=acc:=rfl
theorem cC (acc:List (Nat×Nat)) (i j:Nat) (r:List (Nat×Nat)):nl acc ((i,j) :: r)=nl (if (acc.any (fun p=>p.1 == i))=true then acc else acc++[(i,j)]) r:=rfl
theorem YF (n:Nat):uk [] n=none:=rfl
theorem ao (i j n:Nat) (r:List (Nat×Nat)):uk ((i,j) :: r) n=if n=i then some j else uk r n:=rfl
def XH (o:Option Nat):A:=match o with | some j=> .row j 1 | none=> .undef
def XF (o:Option Nat) (off:Nat):A:=match o with | some j=> .adr j 1 off | none=> .undef
theorem UG (j:Nat):XH (some j)= .row j 1:=rfl
theorem WH (j off:Nat):XF (some j) off= .adr j 1 off:=rfl
theorem OB (m:List (Nat×Nat)) (x:D):uW m ob (.d x)= .d x:=rfl
theorem V3 (m:List (Nat×Nat)):uW m ob .nil= .nil:=rfl
theorem Zo (m:List (Nat×Nat)):uW m ob .undef= .undef:=rfl
theorem Sp (m:List (Nat×Nat)) (cs:List D):uW m ob (.cp cs)= .cp cs:=rfl
theorem VL (m:List (Nat×Nat)) (id ver:Nat):uW m ob (.row id ver)=if (ob id).ver=ver then XH (uk m id) else .undef:=rfl
theorem Ug (m:List (Nat×Nat)) (id ver off:Nat):uW m ob (.adr id ver off)=if (ob id).ver=ver then XF (uk m id) off else .undef:=rfl
theorem Vt (m:List (Nat×Nat)) (id ver off:Nat):uW m ob (.rad id ver off)= .undef:=rfl
theorem V5 (m:List (Nat×Nat)) (cs:List A):uW m ob (.agg cs)= .agg (sW m ob cs):=rfl
theorem U9 (m:List (Nat×Nat)) (cs:List A):uW m ob (.tup cs)= .tup (sW m ob cs):=rfl
theorem Xj (m:List (Nat×Nat)):sW m ob []=[]:=rfl
theorem ZS (m:List (Nat×Nat)) (a:A) (r:List A):sW m ob (a :: r)=uW m ob a :: sW m ob r:=rfl
theorem dt:zC []=true:=rfl
theorem iL (x:Nat) (r:List Nat):zC (x :: r)=(!(r.any (· == x))&&zC r):=rfl
theorem SD {α:Type} (f:α→Bool):List.any [] f=false:=rfl
theorem any_cons {α:Type} (f:α→Bool) (a:α) (l:List α):List.any (a :: l) f=(f a||List.any l f):=rfl
theorem OT {α β:Type} (f:α→List β):List.flatMap f []=[]:=rfl
theorem Rs {α β:Type} (f:α→List β) (a:α) (l:List α):List.flatMap f (a :: l)=f a++List.flatMap f l:=by simp
theorem MP {α:Type} (a:α) (l:List α):(a :: l)[0]? =some a:=rfl
theorem Lb {α:Type} (a:α) (l:List α) (n:Nat):(a :: l)[n+1]? =l[n]? :=rfl
theorem QF {α:Type} (l:List α):l.drop 0=l:=rfl
theorem Oo {α:Type} (a:α) (l:List α) (n:Nat):(a :: l).drop (n+1)=l.drop n:=rfl
theorem TJ (f:FuncId) (live:List Nat) (d:Nat) (a:A) (u:Nat×Ob) (us:List (Nat×Ob)) (L:List SOper):z6 E live (some d) (.call f) (some (.val a (u :: us))) L k st=gT E live L k { slot:=upd st.slot d a,ob:=za st.ob (u :: us) }:=xH _ _ _ rfl _ _ _ _
theorem O0 (live:List Nat) (d:Nat) (a:A) (u:Nat×Ob) (us:List (Nat×Ob)) (L:List SOper):z6 E live (some d) .dyn (some (.val a (u :: us))) L k st=gT E live L k { slot:=upd st.slot d a,ob:=za st.ob (u :: us) }:=xH _ _ _ rfl _ _ _ _
theorem Pk (live:List Nat) (d:Nat) (a:A) (u:Nat×Ob) (us:List (Nat×Ob)) (L:List SOper):z6 E live (some d) .box (some (.val a (u :: us))) L k st=gT E live L k { slot:=upd st.slot d a,ob:=za st.ob (u :: us) }:=xH _ _ _ rfl _ _ _ _
theorem WQ (z:List A) (live:List Nat) (d:Nat) (a:A) (u:Nat×Ob) (us:List (Nat×Ob)) (L:List SOper):z6 E live (some d) (.alloc z) (some (.val a (u :: us))) L k st=gT E live L k { slot:=upd st.slot d a,ob:=za st.ob (u :: us) }:=xH _ _ _ rfl _ _ _ _
theorem Qv (e s l:Nat) (live:List Nat) (d:Nat) (a:A) (u:Nat×Ob) (us:List (Nat×Ob)) (L:List SOper):z6 E live (some d) (lit e s l) (some (.val a (u :: us))) L k st=gT E live L k { slot:=upd st.slot d a,ob:=za st.ob (u :: us) }:=xH _ _ _ rfl _ _ _ _
theorem Pe (e s b:Nat) (z:List D) (live:List Nat) (d:Nat) (a:A) (u:Nat×Ob) (us:List (Nat×Ob)) (L:List SOper):z6 E live (some d) (.mkS e s b z) (some (.val a (u :: us))) L k st=gT E live L k { slot:=upd st.slot d a,ob:=za st.ob (u :: us) }:=xH _ _ _ rfl _ _ _ _
theorem QT (e s b:Nat) (live:List Nat) (d:Nat) (a:A) (u:Nat×Ob) (us:List (Nat×Ob)) (L:List SOper):z6 E live (some d) (.app e s b) (some (.val a (u :: us))) L k st=gT E live L k { slot:=upd st.slot d a,ob:=za st.ob (u :: us) }:=xH _ _ _ rfl _ _ _ _
theorem Sc (e s b:Nat) (z:List D) (live:List Nat) (d:Nat) (a:A) (u:Nat×Ob) (us:List (Nat×Ob)) (L:List SOper):z6 E live (some d) (.appZ e s b z) (some (.val a (u :: us))) L k st=gT E live L k { slot:=upd st.slot d a,ob:=za st.ob (u :: us) }:=xH _ _ _ rfl _ _ _ _
theorem Og (s:Nat) (live:List Nat) (d:Nat) (a:A) (u:Nat×Ob) (us:List (Nat×Ob)) (L:List SOper):z6 E live (some d) (.cut s) (some (.val a (u :: us))) L k st=gT E live L k { slot:=upd st.slot d a,ob:=za st.ob (u :: us) }:=xH _ _ _ rfl _ _ _ _
theorem Y6 (e s b:Nat) (z:List D):SOp.isSt (.appZ e s b z)=false:=rfl
theorem Tg (s:Nat):SOp.isSt (.cut s)=false:=rfl
theorem Rg (e s b:Nat) (z:List D):SOp.quiet (.appZ e s b z)=false:=rfl
theorem PZ (s:Nat):SOp.quiet (.cut s)=false:=rfl
theorem NN (n:Nat) (live:List Nat) (d:Nat) (a:A) (u:Nat×Ob) (us:List (Nat×Ob)) (L:List SOper):z6 E live (some d) (.st n) (some (.val a (u :: us))) L k st=gT E live L k { slot:=upd st.slot d a,ob:=za st.ob (u :: us) }:=xH _ _ _ rfl _ _ _ _
theorem Pj (n:Nat) (live:List Nat) (a:A) (us:List (Nat×Ob)) (L:List SOper):z6 E live none (.st n) (some (.val a us)) L k st=gT E live L k { slot:=st.slot,ob:=za st.ob us }:=iC _ _ rfl _ _ _
theorem XV (f:FuncId):SOp.isSt (.call f)=false:=rfl
theorem Uz:SOp.isSt .dyn=false:=rfl
theorem VW:SOp.isSt .box=false:=rfl
theorem am (z:List A):SOp.isSt (.alloc z)=false:=rfl
theorem Tb (e s l:Nat):SOp.isSt (lit e s l)=false:=rfl
theorem Vs (e s b:Nat) (z:List D):SOp.isSt (.mkS e s b z)=false:=rfl
theorem VQ (e s b:Nat):SOp.isSt (.app e s b)=false:=rfl
theorem Sx (n:Nat):SOp.isSt (.st n)=true:=rfl
theorem VG (i v:Nat):xq (.row i v)=[i]:=rfl
theorem VA (i v o:Nat):xq (.adr i v o)=[i]:=rfl
theorem VO (i v o:Nat):xq (.rad i v o)=[i]:=rfl
theorem QP (x:D):xq (.d x)=[]:=rfl
theorem V6:xq .nil=[]:=rfl
theorem ah:xq .undef=[]:=rfl
theorem Rq (x:List D):xq (.cp x)=[]:=rfl
theorem Vk (cs:List A):xq (.agg cs)=cs.flatMap tw:=rfl
theorem WM (cs:List A):xq (.tup cs)=cs.flatMap tw:=rfl
theorem YL (i v:Nat):tw (.row i v)=[i]:=rfl
theorem XY (i v o:Nat):tw (.adr i v o)=[i]:=rfl
theorem T2 (x:D):tw (.d x)=[]:=rfl
theorem Yg:tw .nil=[]:=rfl
theorem cn (op:SOp):vF op ob []=[]:=rfl
theorem eJ (op:SOp) (i:Nat) (x:Ob) (r:List (Nat×Ob)):vF op ob ((i,x) :: r)=if (!op.isSt&&x.leak&&x.ver == (ob i).ver)=true then vF op ob r else i :: vF op ob r:=rfl
end
section
variable {Γ:Ctx} {ob:Nat→Ob} {d:Nat}
theorem NU (id ver off:Nat):eval Γ ob d (.ld none) [.adr id ver off]=(pp (ob id) ver).bind fun cells=>(cells[off]?).bind fun a=>some (.val a []):=rfl
theorem Qr (n id ver off:Nat):eval Γ ob d (.ld (some n)) [.adr id ver off]=(pp (ob id) ver).bind fun cells=>if off+n ≤ cells.length then some (.val (.agg ((cells.drop off).take n)) []) else none:=rfl
theorem Nz (off id ver o:Nat):eval Γ ob d (.fa off) [.adr id ver o]=(pp (ob id) ver).bind fun _=>some (.val (.adr id ver (o+off)) []):=rfl
theorem N7 (n id ver off:Nat) (a:A):eval Γ ob d (.st n) [.adr id ver off,a]=(pp (ob id) ver).bind fun cells=>
   if off+n ≤ cells.length∧(cellsOf a).length=n∧(cellsOf a).all one=true then
    some (.val .undef [(id,⟨(ob id).ver,.box (cells.take off++cellsOf a++cells.drop (off+n)),(ob id).leak⟩)]) else none:=rfl
theorem Vw (id ver off:Nat):eval Γ ob d .nilck [.adr id ver off]=(pp (ob id) ver).bind fun _=>some (.val (.adr id ver off) []):=rfl
theorem Q9 (a:A):eval Γ ob d .box [a]=if (cellsOf a).all one=true then some (.val (.adr (oid d 0) ((ob (oid d 0)).ver+1) 0) [(oid d 0,⟨(ob (oid d 0)).ver+1,.box (cellsOf a),false⟩)]) else none:=rfl
theorem Un (cells:List A):eval Γ ob d (.alloc cells) []=if cells.all one=true then some (.val (.adr (oid d 0) ((ob (oid d 0)).ver+1) 0) [(oid d 0,⟨(ob (oid d 0)).ver+1,.box cells,false⟩)]) else none:=rfl
theorem QK (zero:List A) (parts:List (Nat×Nat)) (as:List A):eval Γ ob d (.bld zero parts) as=(pI zero parts as).bind fun cs=>some (.val (.agg cs) []):=rfl
theorem P6 (off:Nat) (cs:List A):eval Γ ob d (.fld off none) [.agg cs]=(cs[off]?).bind fun a=>some (.val a []):=rfl
theorem SN (off n:Nat) (cs:List A):eval Γ ob d (.fld off (some n)) [.agg cs]=if off+n ≤ cs.length then some (.val (.agg ((cs.drop off).take n)) []) else none:=rfl
theorem PD (i:Nat) (cs:List A):eval Γ ob d (.ext i) [.tup cs]=(cs[i]?).bind fun a=>some (.val a []):=rfl
theorem Pg (k k':IntKind) (n:Int):eval Γ ob d (.cvt k) [.d (.int k' n)]=some (.val (.d (.int k (k.wrap n))) []):=rfl
theorem Ma (max:Bool) (k:IntKind) (a b:Int):eval Γ ob d (.mm max) [.d (.int k a),.d (.int k b)]=some (.val (.d (.int k (if max=true then (if a < b then b else a) else (if b < a then b else a)))) []):=by simp [eval,ok]
theorem Qf (k:IntKind) (a b:Int):eval Γ ob d (.bin .quo) [.d (.int k a),.d (.int k b)]=if b=0 then none else some (.val (.d (.int k (k.wrap (a.tdiv b)))) []):=by
 simp only [eval,wi,va,ok,if_true]; split <;> rfl
theorem Qx (k:IntKind) (a b:Int):eval Γ ob d (.bin .rem) [.d (.int k a),.d (.int k b)]=if b=0 then none else some (.val (.d (.int k (a.tmod b))) []):=by
 simp only [eval,wi,va,ok,if_true]; split <;> rfl
theorem RO (t:Nat) (x:D):eval Γ ob d .pan [.d (.iface t x)]=some (.pan (.iface t x) []):=rfl
theorem Rc (t:Nat) (xs:List D):eval Γ ob d .pan [.d (.ifaceS t xs)]=some (.pan (.ifaceS t xs) []):=rfl
theorem Pi (f:FuncId):eval Γ ob d (.mkF f) []=some (.val (.d (.fn f)) []):=rfl
theorem QM (t:TypeId) (x:D):eval Γ ob d (.mkI t) [.d x]=some (.val (.d (.iface t x)) []):=rfl
theorem SK (t:TypeId) (cs:List A):eval Γ ob d (.mkI t) [.agg cs]=(zR ob cs).bind fun p=>some (.val (.d (.ifaceS t p.1)) (zg ob p.2)):=rfl
theorem S9 (e size len:Nat) (parts:List (Nat×Nat)) (as:List A):eval Γ ob d (.bldS e size len parts) as=
  if parts=(List.range len).map (fun i=>(i * size,size))∧as.length=len∧(as.all fun a=>decide ((cellsOf a).length=size))=true then
   (zR ob (as.flatMap cellsOf)).bind fun p=>some (.val (.row (oid d 0) ((ob (oid d 0)).ver+1)) (zg ob p.2++[(oid d 0,⟨(ob (oid d 0)).ver+1,.row e size len (some len) p.1,false⟩)])) else none:=by
 simp only [eval]; rfl
def iv (e size len:Nat) (xs:List D):O:= .row e size len (some len) xs
def bA (e size n:Nat) (cap:Nat) (zero:List D):O:= .row e size n (some cap) (List.replicate n zero).flatten
theorem QA (e size len:Nat) (as:List A):eval Γ ob d (lit e size len) as=
  if as.length=len∧(as.all fun a=>decide ((cellsOf a).length=size))=true then
   (zR ob (as.flatMap cellsOf)).bind fun p=>some (.val (.row (oid d 0) ((ob (oid d 0)).ver+1)) (zg ob p.2++[(oid d 0,⟨(ob (oid d 0)).ver+1,iv e size len p.1,false⟩)])) else none:=by
 unfold lit iv
 rw [S9]
 by_cases h:as.length=len∧(as.all fun a=>decide ((cellsOf a).length=size))=true
 ·rw [if_pos h,if_pos ⟨rfl,h.1,h.2⟩]
 ·rw [if_neg h,if_neg (fun q=>h q.2)]
def ae (bytes:Nat) (l c:Int):Prop:=0 ≤ l∧l ≤ c∧(bytes:Int) * c ≤ vQ∧c ≤ 9223372036854775807
instance (b:Nat) (l c:Int):Decidable (ae b l c):=by unfold ae; infer_instance
theorem Qd (e size bytes:Nat) (zero:List D) (k k':IntKind) (l c:Int):eval Γ ob d (.mkS e size bytes zero) [.d (.int k l),.d (.int k' c)]=
  if ae bytes l c then if zero.length=size∧0 < size then
   some (.val (.row (oid d 0) ((ob (oid d 0)).ver+1)) [(oid d 0,⟨(ob (oid d 0)).ver+1,bA e size l.toNat c.toNat zero,false⟩)]) else none else none:=by
 by_cases h:ae bytes l c
 ·rw [if_pos h]
  by_cases h':zero.length=size∧0 < size
  ·rw [if_pos h']
   exact if_pos ⟨h.1,h.2.1,h.2.2.1,h.2.2.2,h'.1,h'.2⟩
  ·rw [if_neg h']
   exact if_neg (fun q=>h' ⟨q.2.2.2.2.1,q.2.2.2.2.2⟩)
 ·rw [if_neg h]
  exact if_neg (fun q=>h ⟨q.1,q.2.1,q.2.2.1,q.2.2.2.1⟩)
theorem RZ (a b:List UInt8):eval Γ ob d (.bin .add) [.d (sD a),.d (sD b)]=if oO (a++b).length then some (.val (.d (sD (a++b))) []) else none:=by
 simp only [eval,wi,qV,sD,oO,List.length_append]
 have h1:(ByteArray.mk a.toArray).size=a.length:=rfl
 have h2:(ByteArray.mk b.toArray).size=b.length:=rfl
 rw [h1,h2]
 split
 ·simp only [Option.bind_some,ok]
  congr 5
 ·rfl
theorem R6 (a b:List UInt8):eval Γ ob d (.bin .eql) [.d (sD a),.d (sD b)]=some (.val (.d (.bool (decide (a=b)))) []):=by
 simp only [eval,wi,qV,sD,mB,Option.bind_some,ok]
 congr 4
 exact (Bool.beq_eq_decide_eq a b)
theorem Ro (a b:List UInt8):eval Γ ob d (.bin .neq) [.d (sD a),.d (sD b)]=some (.val (.d (.bool (!decide (a=b)))) []):=by
 simp only [eval,wi,qV,sD,mB,Option.bind_some,ok]
 congr 5
 exact (Bool.beq_eq_decide_eq a b)
def f6 (a b:List UInt8):Bool:=Op.bytesLess a b
theorem Sy (a b:List UInt8):eval Γ ob d (.bin .lss) [.d (sD a),.d (sD b)]=some (.val (.d (.bool (f6 a b))) []):=by
 simp only [eval,wi,qV,sD,mB,Option.bind_some,ok,f6]
theorem SP (a b:List UInt8):eval Γ ob d (.bin .geq) [.d (sD a),.d (sD b)]=some (.val (.d (.bool (!f6 a b))) []):=by
 simp only [eval,wi,qV,sD,mB,Option.bind_some,ok,f6]
theorem Yq (z:List A):pI z [] []=some z:=rfl
theorem ar (z:List A) (off size:Nat) (ps:List (Nat×Nat)) (a:A) (r:List A):pI z ((off,size) :: ps) (a :: r)=
  if (cellsOf a).length=size∧off+size ≤ z.length∧(cellsOf a).all one=true then pI (z.take off++cellsOf a++z.drop (off+size)) ps r else none:=rfl
theorem co (i v:Nat):cellsOf (.row i v)=[.row i v]:=rfl
theorem cY:cellsOf .nil=[.nil]:=rfl
theorem cR (i v o:Nat):cellsOf (.adr i v o)=[.adr i v o]:=rfl
theorem PR (xs:List D):eval Γ ob d (.fa 0) [.cp xs]=some (.val (.cp xs) []):=by simp [eval,pk,ok]
theorem PO (a:D) (xs:List D):eval Γ ob d (.fa 1) [.cp (a :: xs)]=some (.val (.cp xs) []):=by simp [eval,pk,ok]
theorem OJ (a b:D) (xs:List D):eval Γ ob d (.fa 2) [.cp (a :: b :: xs)]=some (.val (.cp xs) []):=by simp [eval,pk,ok]
theorem PC (a b c:D) (xs:List D):eval Γ ob d (.fa 3) [.cp (a :: b :: c :: xs)]=some (.val (.cp xs) []):=by simp [eval,pk,ok]
theorem QR (a b c e:D) (xs:List D):eval Γ ob d (.fa 4) [.cp (a :: b :: c :: e :: xs)]=some (.val (.cp xs) []):=by simp [eval,pk,ok]
theorem SJ (a:D) (xs:List D):eval Γ ob d (.ld (some 1)) [.cp (a :: xs)]=some (.val (.agg [.d a]) []):=by simp [eval,s5,ok]
theorem TO (a b:D) (xs:List D):eval Γ ob d (.ld (some 2)) [.cp (a :: b :: xs)]=some (.val (.agg [.d a,.d b]) []):=by simp [eval,s5,ok]
theorem Se (a b c:D) (xs:List D):eval Γ ob d (.ld (some 3)) [.cp (a :: b :: c :: xs)]=some (.val (.agg [.d a,.d b,.d c]) []):=by simp [eval,s5,ok]
theorem T5 (a b c e:D) (xs:List D):eval Γ ob d (.ld (some 4)) [.cp (a :: b :: c :: e :: xs)]=some (.val (.agg [.d a,.d b,.d c,.d e]) []):=by simp [eval,s5,ok]
theorem OO (a b c e f:D) (xs:List D):eval Γ ob d (.fa 5) [.cp (a :: b :: c :: e :: f :: xs)]=some (.val (.cp xs) []):=by simp [eval,pk,ok]
theorem T7 (a b c e f:D) (xs:List D):eval Γ ob d (.ld (some 5)) [.cp (a :: b :: c :: e :: f :: xs)]=some (.val (.agg [.d a,.d b,.d c,.d e,.d f]) []):=by simp [eval,s5,ok]
theorem Ri (a b c e f g:D) (xs:List D):eval Γ ob d (.ld (some 6)) [.cp (a :: b :: c :: e :: f :: g :: xs)]=some (.val (.agg [.d a,.d b,.d c,.d e,.d f,.d g]) []):=by simp [eval,s5,ok]
theorem Xy (neg:Bool):eval Γ ob d (.inil neg) [.d .nili]=some (.val (.d (.bool !neg)) []):=rfl
theorem Xd (neg:Bool) (t:TypeId) (x:D):eval Γ ob d (.inil neg) [.d (.iface t x)]=some (.val (.d (.bool neg)) []):=rfl
theorem Wa (neg:Bool) (t:TypeId) (xs:List D):eval Γ ob d (.inil neg) [.d (.ifaceS t xs)]=some (.val (.d (.bool neg)) []):=rfl
theorem Of (t u:TypeId) (x:D):eval Γ ob d (.ta t) [.d (.iface u x)]=if u=t then some (.val (.tup [.d x,.d (.bool true)]) []) else none:=rfl
theorem P4 (t u:TypeId) (xs:List D):eval Γ ob d (.ta t) [.d (.ifaceS u xs)]=if u=t then some (.val (.tup [.agg (xs.map .d),.d (.bool true)]) []) else none:=rfl
theorem Qt (n size id ver o:Nat) (k:IntKind) (i:Int):eval Γ ob d (.iaa n size) [.adr id ver o,.d (.int k i)]=
  (pp (ob id) ver).bind fun _=>if 0 ≤ i∧i < (n:Int) then some (.val (.adr id ver (o+i.toNat * size)) []) else none:=rfl
theorem Q6 (n size:Nat) (cs:List A) (k:IntKind) (i:Int):eval Γ ob d (.ixa n size none) [.agg cs,.d (.int k i)]=
  if 0 ≤ i∧i < (n:Int) then (cs[i.toNat * size]?).bind fun a=>some (.val a []) else none:=rfl
def tab {α:Type}:List α→Nat→Nat→Option α
 | [],_,_=>none
 | a :: l,n,j=>if n=j then some a else tab l n (j+1)
theorem TI {α:Type} (n j:Nat):tab ([]:List α) n j=none:=rfl
theorem Vp {α:Type} (a:α) (l:List α) (n j:Nat):tab (a :: l) n j=if n=j then some a else tab l n (j+1):=rfl
theorem gq {α:Type}:∀ (l:List α) (n j:Nat),tab l (n+j) j=l[n]?
 | [],n,j=>by simp [tab]
 | a :: l,0,j=>by simp [tab]
 | a :: l,n+1,j=>by
   simp only [tab,List.getElem?_cons_succ]
   rw [if_neg (by omega),← gq l n (j+1)]
   congr 1; omega
theorem OH {α:Type} (a:α) (l:List α) (i:Int) (s:Nat):(a :: l)[i.toNat * s]? =tab (a :: l) (i.toNat * s) 0:=(gq (a :: l) (i.toNat * s) 0).symm
theorem T4 {α:Type} (a:α) (l:List α) (i:Int):(a :: l)[i.toNat]? =tab (a :: l) i.toNat 0:=(gq (a :: l) i.toNat 0).symm
theorem TB {E:En} {k:List KJ} {st:St} (b:Cd) (id ver off:Nat):gFz E b k st (.adr id ver off)=(pp (st.ob id) ver).bind fun cells=>(zR st.ob cells).bind fun p=>
  G E b k { slot:=st.slot,ob:=za st.ob (zg st.ob p.2++[(id,⟨(st.ob id).ver,.box (p.1.map dA),(st.ob id).leak⟩)]) }:=rfl
def jm (a:A) (p:Prop) [Decidable p] (q:IntKind) (x:Int):A:=match a with
 | .d (.int q' y)=>if q'=q then .d (.int q (if p then x else y)) else if p then .d (.int q x) else a
 | _=>if p then .d (.int q x) else a
theorem gD (a:A) (p:Prop) [Decidable p] (q:IntKind) (x:Int):jm a p q x=if p then .d (.int q x) else a:=by
 unfold jm
 split
 ·split
  ·rename_i e; subst e; split <;> rfl
  ·rfl
 ·rfl
theorem eN (y:Int) (p:Prop) [Decidable p] (q:IntKind) (x:Int):jm (.d (.int q y)) p q x= .d (.int q (if p then x else y)):=by
 unfold jm; simp
theorem Lw (y:Int) (p:Prop) [Decidable p] (x:Int):jm (.d (iD y)) p .i64 x= .d (.int .i64 (if p then x else y)):=eN y p .i64 x
theorem NT (n:Int):A.d (iD n)= .d (.int .i64 n):=rfl
def jM:List A→Nat→Nat→IntKind→Int→List A
 | [],_,_,_,_=>[]
 | a :: l,k,j,q,x=>jm a (j=k) q x :: jM l (k+1) j q x
theorem V9 (k j:Nat) (q:IntKind) (x:Int):jM [] k j q x=[]:=rfl
theorem oS (a:A) (l:List A) (k j:Nat) (q:IntKind) (x:Int):jM (a :: l) k j q x=jm a (j=k) q x :: jM l (k+1) j q x:=rfl
theorem gW:∀ (l:List A) (k j:Nat) (q:IntKind) (x:Int),j < k→jM l k j q x=l
 | [],_,_,_,_,_=>rfl
 | a :: l,k,j,q,x,h=>by rw [oS,gD,if_neg (by omega),gW l (k+1) j q x (by omega)]
theorem bG:∀ (l:List A) (k j:Nat) (q:IntKind) (x:Int),j < l.length→jM l k (k+j) q x=l.take j++[.d (.int q x)]++l.drop (j+1)
 | [],k,j,q,x,h=>by simp at h
 | a :: l,k,0,q,x,h=>by rw [oS,gD,if_pos (by omega),gW l (k+1) (k+0) q x (by omega)]; simp
 | a :: l,k,j+1,q,x,h=>by
   rw [oS,gD,if_neg (by omega),show k+(j+1)=k+1+j by omega,bG l (k+1) j q x (by simpa using h)]
   simp
theorem Oe (i:Int) (s id v:Nat) (q:IntKind) (x:Int) (lk:Bool) (cells:List A):
  (if i.toNat * s+1 ≤ cells.length∧(cellsOf (.d (.int q x))).length=1∧(cellsOf (.d (.int q x))).all one=true then
    some (Out.val .undef [(id,⟨v,.box (cells.take (i.toNat * s)++cellsOf (.d (.int q x))++cells.drop (i.toNat * s+1)),lk⟩)]) else none)
  =if i.toNat * s < cells.length then some (Out.val .undef [(id,⟨v,.box (jM cells 0 (i.toNat * s) q x),lk⟩)]) else none:=by
 have e1:(cellsOf (.d (.int q x))).length=1∧(cellsOf (.d (.int q x))).all one=true:=⟨rfl,rfl⟩
 by_cases h:i.toNat * s < cells.length
 ·rw [if_pos ⟨by omega,e1⟩,if_pos h]
  have:=bG cells 0 (i.toNat * s) q x h
  rw [Nat.zero_add] at this
  rw [this]; rfl
 ·rw [if_neg (fun p=>by omega),if_neg h]
def stB (x:Option (List D×List Nat)):O:=match x with
 | some (xs,_)=> .box (xs.map dA)
 | none=> .dead
@[congr] theorem Mm {x x':Option (List D×List Nat)} (h:x=x'):stB x=stB x':=by rw [h]
theorem Tf (xs:List D) (l:List Nat):stB (some (xs,l))= .box (xs.map dA):=rfl
theorem Zk (cells:List A):tE ob (.box cells)=stB (zR ob cells):=by
 simp only [tE]
 cases zR ob cells <;> rfl
theorem Ti {α:Type} (c:Enc α) (e:Nat) (cap:Option Nat) (l:List α):tE ob (zP c e cap l)= .dead:=rfl
theorem Zn:lE [] ob=[]:=rfl
theorem cQ (id:Nat) (r:List Nat):lE (id :: r) ob=(id,⟨(ob id).ver,tE ob (ob id).o,false⟩) :: lE r ob:=rfl
@[congr] theorem Nw {E:En} {ids da:List Nat} {x:D} {st st':St} (h:st=st'):du E ids da x st=du E ids da x st':=by rw [h]
@[congr] theorem Li {E:En} {b:Cd} {st st':St} (h:st=st'):gB E b st=gB E b st':=by rw [h]
end
end Go.Vm
