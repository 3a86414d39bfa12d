/- The rules by which a call is rewritten into a plain Lean function, bundled. -/
import Derived.Test.YtafjdofgafppgaaGreatVmObj
set_option linter.unusedSectionVars false
set_option linter.unusedSimpArgs false
set_option linter.unusedVariables false
namespace Go.Vm
def gS (E:En) (k:List KJ) (st:St):Option XOut:=yQ E k (.normal,st)
def gE (E:En) (k:List KJ) (e:Ex) (st:St):Option XOut:=yQ E k (e,st)
@[congr] theorem zax {E:En} {k:List KJ} {st st':St} (h:st=st'):gS E k st=gS E k st':=by rw [h]
@[congr] theorem B6 {α:Type} {c c':Option Bool} {x y:Option α} (h:c=c'):gIf c x y=gIf c' x y:=by rw [h]
@[congr] theorem BF {E:En} {d:Option Nat} {x x':Option Out} {l:List SOper} {k:List KJ} {st:St} (h:x=x'):sp E d x l k st=sp E d x' l k st:=by rw [h]
@[congr] theorem C1 {E:En} {v:List Nat} {d:Option Nat} {op:SOp} {x x':Option Out} {l:List SOper} {k:List KJ} {st:St} (h:x=x'):
   xE E v d op x l k st=xE E v d op x' l k st:=by rw [h]
@[congr] theorem AG {E:En} {keep:List Nat} {b:Cd} {m:Nat} {k:List KJ} {x x':Option St} (h:x=x'):gC E keep b m k x=gC E keep b m k x':=by rw [h]
def sel {α:Type} (c:Bool) (x y:α):α:=match c with
 | true=>x
 | false=>y
@[congr] theorem B2 {α:Type} {c c':Bool} {x y:α} (h:c=c'):sel c x y=sel c' x y:=by rw [h]
theorem zaY {α:Type} (x y:α):sel true x y=x:=rfl
theorem zaV {α:Type} (x y:α):sel false x y=y:=rfl
theorem QW {α:Type} (f:Nat→α) (n m:Nat) (v:α):upd f n v m=sel (m == n) v (f m):=by
 unfold upd sel
 by_cases h:m=n
 ·subst h; simp
 ·rw [if_neg h]
  have:(m == n)=false:=by simpa using h
  rw [this]
theorem B3 (i:Nat) (a:A) (r:List (Nat×A)) (n:Nat):zw ((i,a) :: r) n=sel (n == i) a (zw r n):=QW (zw r) i n a
theorem zaD (i:Nat) (o:Ob) (r:List (Nat×Ob)) (n:Nat):zF ((i,o) :: r) n=sel (n == i) o (zF r n):=QW (zF r) i n o
@[congr] theorem By {Γ:Ctx} {ob:Nat→Ob} {d:Nat} {op:SOp} {as as':List A} (h:as=as'):eval Γ ob d op as=eval Γ ob d op as':=by rw [h]
section
variable {E:En} {k:List KJ} {st:St} {s:Nat→A} {ob:Nat→Ob}
theorem Gy (l:List (Nat×A)) (ob:Nat→Ob):gS E k ⟨zw l,ob⟩=yQ E k (.normal,⟨zw l,ob⟩):=rfl
theorem Ao (live:List Nat):yQ E (.v live :: k) (.normal,st)=gS E k ⟨zw (live.map fun n=>(n,st.slot n)),st.ob⟩:=rfl
theorem Du (live:List Nat):cF E live k (.normal,st)=yQ E (.v live :: k) (.normal,st):=rfl
theorem Gp (live:List Nat) (x:D):cF E live k (.panic x,st)=yQ E k (.panic x,st.forget E.ps):=rfl
theorem HN (keep:List Nat) (b:Cd) (m:Nat):gL E keep b m k st=gC E keep b m k (canon E.ps keep st):=BL keep b m
theorem IL {α:Type} (b:Bool) (x y:Option α):gIf (some b) x y=if b=true then x else y:=by cases b <;> rfl
theorem IM {α:Type} (x y:Option α):gIf (some true) x y=x:=rfl
theorem IR {α:Type} (x y:Option α):gIf (some false) x y=y:=rfl
theorem zz {α β:Type} (p:Prop) [Decidable p] (x y:Option α) (f:α→Option β):(if p then x else y).bind f=if p then x.bind f else y.bind f:=by split <;> rfl
theorem za0 (b:Bool):(b=true)=(b=true):=rfl
def dR (fl:TypeId→Bool) (ob:Nat→Ob) (d:Nat) (ls ms:List Nat) (x:Option XOut):Option Out:=x.bind fun
    | .ret x outs=>(xY ob ms outs).map fun bs=> .val (xU (zq ob bs) ms x (ofX (zq ob bs) d x 0).1) ((if xP fl x&&outs.all lu then [] else zX ob ls)++(bs++(ofX (zq ob bs) d x 0).2.1))
    | .pan x outs=>(xY ob ms outs).map fun bs=> .pan x (zX ob ls++bs)
def VI (c:Bool) (ob:Nat→Ob) (ls:List Nat):List (Nat×Ob):=if c=true then [] else zX ob ls
@[congr] theorem Bb {c c':Bool} {ob:Nat→Ob} {ls:List Nat} (h:c=c'):VI c ob ls=VI c' ob ls:=by rw [h]
theorem N9 (ob:Nat→Ob) (ls:List Nat):VI true ob ls=[]:=rfl
theorem MA (c:Bool) (ob:Nat→Ob):VI c ob []=[]:=by cases c <;> rfl
theorem MI (ob:Nat→Ob) (ls:List Nat):VI false ob ls=zX ob ls:=rfl
theorem H4 (fl:TypeId→Bool) (x:D):xP fl (.d x)=x.flat:=by simp only [xP]
theorem M7 (fl:TypeId→Bool):xP fl .nil=true:=by simp only [xP]
theorem Lr (fl:TypeId→Bool) (xs:List X):xP fl (.agg xs)=pd fl xs:=by simp only [xP]
theorem N5 (fl:TypeId→Bool) (xs:List X):xP fl (.tup xs)=pd fl xs:=by simp only [xP]
theorem M0 (fl:TypeId→Bool) (xs:List X):xP fl (.box xs)=pd fl xs:=by simp only [xP]
theorem Oq (fl:TypeId→Bool):pd fl []=true:=by simp only [pd]
theorem Qx (fl:TypeId→Bool) (x:X) (xs:List X):pd fl (x :: xs)=(xP fl x&&pd fl xs):=by simp only [pd]
theorem Jf (k:IntKind) (n:Int):(D.int k n).flat=true:=rfl
theorem Mb (b:Bool):(D.bool b).flat=true:=rfl
theorem JD (l:List UInt8):(sD l).flat=true:=rfl
theorem GX (f:FuncId):(D.fn f).flat=true:=rfl
theorem N2:D.nilp.flat=true:=rfl
theorem Me:D.nilf.flat=true:=rfl
theorem NS:D.nili.flat=true:=rfl
theorem ON (t:TypeId) (x:D):(D.iface t x).flat=false:=rfl
theorem Qd (t:TypeId) (x:List D):(D.ifaceS t x).flat=false:=rfl
theorem Ns:(D.lst 0 []).flat=false:=rfl
theorem FX {α:Type} (c:Enc α) (l:List α):(zf c l).flat=false:=rfl
theorem O0 (ds:List D):lu ds=ds.all D.flat:=rfl
def dC (Γ:Ctx) (ob:Nat→Ob) (d:Nat) (f:FuncId) (x:Option (List X×List Nat×List Nat)):Option Out:=x.bind fun p=>
 if yL p.2.2&&!(p.2.2.any fun m=>p.2.1.any (· == m)) then dR Γ.fl ob d p.2.1 p.2.2 (Γ f p.1) else none
@[congr] theorem AN {fl:TypeId→Bool} {ob:Nat→Ob} {d:Nat} {ls ms:List Nat} {x x':Option XOut} (h:x=x'):dR fl ob d ls ms x=dR fl ob d ls ms x':=by rw [h]
@[congr] theorem Av {Γ:Ctx} {ob:Nat→Ob} {d:Nat} {f:FuncId} {x x':Option (List X×List Nat×List Nat)} (h:x=x'):dC Γ ob d f x=dC Γ ob d f x':=by rw [h]
theorem Qw (Γ:Ctx) (ob:Nat→Ob) (d:Nat) (as:List A):eval Γ ob d .dyn (.d .nilf :: as)=none:=rfl
theorem LE (Γ:Ctx) (ob:Nat→Ob) (d:Nat) (f:FuncId) (as:List A):eval Γ ob d (.call f) as=dC Γ ob d f (sv (Γ.mu f) ob as):=rfl
theorem GA (Γ:Ctx) (ob:Nat→Ob) (d:Nat) (f:FuncId) (as:List A):eval Γ ob d .dyn (.d (.fn f) :: as)=dC Γ ob d f (sv (Γ.mu f) ob as):=rfl
theorem I3 (Γ:Ctx) (ob:Nat→Ob) (d:Nat) (f:FuncId) (xs:List X) (ls ms:List Nat):dC Γ ob d f (some (xs,ls,ms))=
  if (yL ms&&!(ms.any fun m=>ls.any (· == m)))=true then dR Γ.fl ob d ls ms (Γ f xs) else none:=rfl
theorem GW {α:Type} (fl:TypeId→Bool) (ob:Nat→Ob) (d:Nat) (ls ms:List Nat) (x:Option α) (f:α→Option XOut):dR fl ob d ls ms (x.bind f)=x.bind fun y=>dR fl ob d ls ms (f y):=by
 unfold dR; rw [Option.bind_assoc]
theorem CW (fl:TypeId→Bool) (ob:Nat→Ob) (d:Nat) (ls ms:List Nat) (x:X) (outs:List (List D)):dR fl ob d ls ms (some (.ret x outs))=
  (xY ob ms outs).bind fun bs=>some (.val (xU (zq ob bs) ms x (ofX (zq ob bs) d x 0).1) (VI (xP fl x&&outs.all lu) ob ls++(bs++(ofX (zq ob bs) d x 0).2.1))):=by
 simp only [dR,Option.bind_some]; cases xY ob ms outs <;> rfl
theorem D2 (fl:TypeId→Bool) (ob:Nat→Ob) (d:Nat) (ls ms:List Nat) (x:D) (outs:List (List D)):dR fl ob d ls ms (some (.pan x outs))=
  (xY ob ms outs).bind fun bs=>some (.pan x (zX ob ls++bs)):=by
 simp only [dR,Option.bind_some]; cases xY ob ms outs <;> rfl
theorem H6 (fl:TypeId→Bool) (ob:Nat→Ob) (d:Nat) (ls ms:List Nat):dR fl ob d ls ms none=none:=rfl
theorem Nt (ob:Nat→Ob):xY ob [] []=some []:=rfl
theorem P4 (ob:Nat→Ob) (id:Nat) (r:List Nat) (ds:List D) (xs:List (List D)):xY ob (id :: r) (ds :: xs)=
  (jj (ob id) ds).bind fun x=>(xY ob r xs).bind fun y=>some ((id,x) :: y):=by
 simp only [xY]
 cases jj (ob id) ds with
 | none=>rfl
 | some x=>cases xY ob r xs <;> rfl
theorem ML (v:Nat) (cells:List A) (lk:Bool) (ds:List D):jj ⟨v,.box cells,lk⟩ ds=some ⟨v,.box (ds.map dA),false⟩:=rfl
theorem Mh (ob:Nat→Ob):zX ob []=[]:=rfl
theorem Oy (ob:Nat→Ob) (i:Nat) (r:List Nat):zX ob (i :: r)=(i,⟨(ob i).ver,(ob i).o,true⟩) :: zX ob r:=rfl
theorem C9 (m:Bool) (x:D):toX m ob (.d x)=some (.d x,[],[]):=rfl
theorem Jc:toX false ob .nil=some (.d (.lst 0 []),[],[]):=rfl
theorem JY:toX true ob .nil=some (.nil,[],[]):=rfl
theorem Gx (m:Bool) (cs:List A):toX m ob (.agg cs)=(sv m ob cs).bind fun p=>some (.agg p.1,p.2.1,p.2.2):=by
 simp only [toX]; cases sv m ob cs <;> rfl
theorem JL (m:Bool):sv m ob []=some ([],[],[]):=rfl
theorem NQ (m:Bool) (a:A) (r:List A):sv m ob (a :: r)=(toX m ob a).bind fun p=>(sv m ob r).bind fun q=>some (p.1 :: q.1,p.2.1++q.2.1,p.2.2++q.2.2):=by
 simp only [sv]
 cases toX m ob a with
 | none=>rfl
 | some p=>obtain ⟨x,l,k⟩:=p; cases sv m ob r <;> rfl
theorem SK:uN []=some []:=rfl
theorem OE (x:D) (r:List A):uN (.d x :: r)=(uN r).bind fun y=>some (x :: y):=by
 simp only [uN]; cases uN r <;> rfl
theorem FR (x:D):xT ob (.d x)=some (x,[]):=rfl
theorem KX:xT ob .nil=some (.lst 0 [],[]):=rfl
theorem Nq:xm ob []=some ([],[]):=rfl
theorem OU (a:A) (r:List A):xm ob (a :: r)=(xT ob a).bind fun p=>(xm ob r).bind fun q=>some (p.1 :: q.1,p.2++q.2):=by
 simp only [xm]
 cases xT ob a with
 | none=>rfl
 | some p=>obtain ⟨x,l⟩:=p; cases xm ob r <;> rfl
theorem BG (d:Nat) (x:D) (j:Nat):ofX ob d (.d x) j=(.d x,[],j):=rfl
theorem Hw (d:Nat) (j:Nat):ofX ob d .nil j=(.nil,[],j):=rfl
theorem HM (d:Nat) (k j:Nat):ofX ob d (.par k) j=(.undef,[],j):=rfl
theorem NN (fl:TypeId→Bool) (k:Nat):xP fl (.par k)=true:=by simp only [xP]
theorem F9 (ms:List Nat) (x:D) (a:A):xU ob ms (.d x) a=a:=by cases a <;> rfl
theorem KY (ms:List Nat) (a:A):xU ob ms .nil a=a:=by cases a <;> rfl
theorem LI (ms:List Nat) (e s n:Nat) (c:Option Nat) (cells:List D) (lk:Bool) (a:A):xU ob ms (.own e s n c cells lk) a=a:=by cases a <;> rfl
theorem Kl (ms:List Nat) (xs:List X) (a:A):xU ob ms (.box xs) a=a:=by cases a <;> rfl
theorem KQ (ms:List Nat) (xs:List X) (as:List A):xU ob ms (.agg xs) (.agg as)= .agg (nu ob ms xs as):=rfl
theorem Ih (ms:List Nat) (xs:List X) (as:List A):xU ob ms (.tup xs) (.tup as)= .tup (nu ob ms xs as):=rfl
def P5 (ob:Nat→Ob) (o:Option Nat):A:=match o with
 | some id=> .row id (ob id).ver
 | none=> .undef
@[congr] theorem BI {ob:Nat→Ob} {o o':Option Nat} (h:o=o'):P5 ob o=P5 ob o':=by rw [h]
theorem MC (id:Nat):P5 ob (some id)= .row id (ob id).ver:=rfl
theorem KF (ms:List Nat) (k:Nat) (a:A):xU ob ms (.par k) a=P5 ob (ms[k]?):=by cases a <;> rfl
theorem No (ms:List Nat) (as:List A):nu ob ms [] as=as:=by cases as <;> rfl
theorem PV (ms:List Nat) (x:X) (xs:List X) (a:A) (as:List A):nu ob ms (x :: xs) (a :: as)=xU ob ms x a :: nu ob ms xs as:=rfl
theorem Gj (d:Nat) (xs:List X) (j:Nat):ofX ob d (.agg xs) j=(.agg (xQ ob d xs j).1,(xQ ob d xs j).2.1,(xQ ob d xs j).2.2):=rfl
theorem FC (d:Nat) (xs:List X) (j:Nat):ofX ob d (.tup xs) j=(.tup (xQ ob d xs j).1,(xQ ob d xs j).2.1,(xQ ob d xs j).2.2):=rfl
theorem Fk (d:Nat) (xs:List X) (j:Nat):ofX ob d (.box xs) j=(.adr (oid d j) ((ob (oid d j)).ver+1) 0,(xQ ob d xs (j+1)).2.1++[(oid d j,⟨(ob (oid d j)).ver+1,.box (xQ ob d xs (j+1)).1,false⟩)],(xQ ob d xs (j+1)).2.2):=rfl
theorem KN (d:Nat) (j:Nat):xQ ob d [] j=([],[],j):=rfl
theorem Ng (d:Nat) (x:X) (r:List X) (j:Nat):xQ ob d (x :: r) j=((ofX ob d x j).1 :: (xQ ob d r (ofX ob d x j).2.2).1,(ofX ob d x j).2.1++(xQ ob d r (ofX ob d x j).2.2).2.1,(xQ ob d r (ofX ob d x j).2.2).2.2):=rfl
theorem Is {α:Type} (x:Option α) (f:α→Option XOut):fin E (x.bind f)=x.bind fun y=>fin E (f y):=by unfold fin; rw [Option.bind_assoc]
theorem JG (y:XOut):fin E (some y)=E.wk y:=rfl
theorem Jd:fin E none=none:=rfl
theorem GG (p:Prop) [Decidable p] (x y:Option XOut):fin E (if p then x else y)=if p then fin E x else fin E y:=by split <;> rfl
theorem Fi (x:D):ol (.d x)=true:=rfl
theorem ME:ol .nil=true:=rfl
theorem Nv (e s n:Nat) (c:Option Nat) (cells:List D) (lk:Bool):ol (.own e s n c cells lk)=true:=rfl
theorem Ln (k:RK) (x:D):ol (.res k x)=true:=rfl
theorem NR (ps:List Nat) (rs:List RV):hY ps rs (.ret,st)=(Vm.results ps st rs).bind fun x=>(sr st.ob ps).bind fun y=>
   if (yL x.2&&!(x.2.any fun m=>y.2.any (· == m)||ps.any (· == m)))=true then some (.ret x.1 y.1) else none:=rfl
theorem PY (ps:List Nat) (rs:List RV):hY ps rs (.normal,st)=(Vm.results ps st rs).bind fun x=>(sr st.ob ps).bind fun y=>
   if (yL x.2&&!(x.2.any fun m=>y.2.any (· == m)||ps.any (· == m)))=true then some (.ret x.1 y.1) else none:=rfl
theorem M1 (ps:List Nat) (rs:List RV) (x:D):hY ps rs (.panic x,st)=(sr st.ob ps).bind fun y=>some (.pan x y.1):=by
 simp only [hY]; cases sr st.ob ps <;> rfl
theorem Qf (ps:List Nat) (rs:List RV):Vm.results ps st rs=(kL st rs).bind (cJ ps st.ob):=rfl
theorem PD:kL st []=some []:=rfl
theorem R0 (r:RV) (rs:List RV):kL st (r :: rs)=(r.get st).bind fun a=>(kL st rs).bind fun y=>some (a :: y):=by
 simp only [kL]
 cases r.get st with
 | none=>rfl
 | some a=>cases kL st rs <;> rfl
theorem E1 (t:Nat):RV.get ⟨s,ob⟩ (.tmp t)=some (s t):=rfl
def Oi (ob:Nat→Ob) (n:Option Nat) (a:A):Option A:=match a with
 | .adr id ver 0=>(ed (ob id) ver).bind fun cells=>match n with
     | none=>cells[0]?
     | some n=>if n ≤ cells.length then some (.agg (cells.take n)) else none
 | _=>none
theorem Hr (t:Nat) (n:Option Nat):RV.get ⟨s,ob⟩ (.cell t n)=Oi ob n (s t):=rfl
theorem GI (id ver:Nat):Oi ob none (.adr id ver 0)=(ed (ob id) ver).bind fun cells=>cells[0]? :=rfl
theorem Gs (id ver n:Nat):Oi ob (some n) (.adr id ver 0)=(ed (ob id) ver).bind fun cells=>if n ≤ cells.length then some (.agg (cells.take n)) else none:=rfl
theorem Lj (i:Nat):il [] i=none:=rfl
theorem PR (p:Nat) (ps:List Nat) (i:Nat):il (p :: ps) i=if i=p then some 0 else (il ps i).map (· +1):=rfl
theorem KU (ps:List Nat) (a:A):cJ ps ob [a]=gc ps ob a:=rfl
theorem JM (ps:List Nat):cJ ps ob []=some (.tup [],[]):=rfl
theorem LN (ps:List Nat) (a b:A) (r:List A):cJ ps ob (a :: b :: r)=(u6 ps ob (a :: b :: r)).bind fun x=>some (.tup x.1,x.2):=by
 show (u6 ps ob (a :: b :: r)).map _=_
 cases u6 ps ob (a :: b :: r) <;> rfl
theorem LV (ps:List Nat) (x:D):gc ps ob (.d x)=some (.d x,[]):=rfl
theorem OG (ps:List Nat):gc ps ob .nil=some (.nil,[]):=rfl
theorem Na (ps:List Nat) (id ver:Nat):gc ps ob (.row id ver)=aU (il ps id) (ob id) id ver:=by
 show pc ps ob (.row id ver)=_
 rw [T6]
theorem OL (ps:List Nat) (cs:List A):gc ps ob (.agg cs)=(u6 ps ob cs).bind fun x=>some (.agg x.1,x.2):=by
 show (u6 ps ob cs).map _=_
 cases u6 ps ob cs <;> rfl
theorem Ds (ps:List Nat) (x:D):pc ps ob (.d x)=some (.d x,[]):=rfl
theorem Iw (ps:List Nat):pc ps ob .nil=some (.nil,[]):=rfl
theorem KW (ps:List Nat) (cs:List A):pc ps ob (.agg cs)=(u6 ps ob cs).bind fun x=>some (.agg x.1,x.2):=by
 simp only [pc]; cases u6 ps ob cs <;> rfl
theorem N0 (ps:List Nat):u6 ps ob []=some ([],[]):=rfl
theorem OK (ps:List Nat) (a:A) (r:List A):u6 ps ob (a :: r)=(pc ps ob a).bind fun x=>(u6 ps ob r).bind fun y=>some (x.1 :: y.1,x.2++y.2):=by
 simp only [u6]
 cases pc ps ob a with
 | none=>rfl
 | some p=>cases u6 ps ob r <;> rfl
theorem Og (v:Nat) (cells:List A) (lk:Bool):fE ob ⟨v,.box cells,lk⟩=if v=1 then kA ob cells else none:=rfl
theorem I2 (x:D):ey ob (.d x)=some (x,[]):=rfl
theorem NY:ey ob .nil=some (.nils,[]):=rfl
theorem MV (id ver:Nat):ey ob (.row id ver)=X1 (ob id) id ver:=rfl
theorem Pw:kA ob []=some ([],[]):=rfl
theorem RU (a:A) (r:List A):kA ob (a :: r)=(ey ob a).bind fun p=>(kA ob r).bind fun q=>some (p.1 :: q.1,p.2++q.2):=by
 simp only [kA]
 cases ey ob a with
 | none=>rfl
 | some p=>obtain ⟨x,l⟩:=p; cases kA ob r <;> rfl
theorem Ev (k:IntKind) (n:Int):dA (.int k n)= .d (.int k n):=rfl
theorem HU (b:Bool):dA (.bool b)= .d (.bool b):=rfl
theorem Eh (l:List UInt8):dA (sD l)= .d (sD l):=rfl
theorem BD (f:FuncId):dA (.fn f)= .d (.fn f):=rfl
theorem zap {α:Type} (c:Enc α) (l:List α):dA (zf c l)= .d (zf c l):=rfl
theorem Ge:dA (.lst 0 [])= .d (.lst 0 []):=rfl
theorem C6 (n:Int):dA (iD n)= .d (.int .i64 n):=rfl
theorem FB:dA .nils= .nil:=rfl
theorem Fe:dA .nilp= .d .nilp:=rfl
theorem HG:dA .nilf= .d .nilf:=rfl
theorem Fz:dA .nili= .d .nili:=rfl
theorem Ig (t:TypeId) (x:D):dA (.iface t x)= .d (.iface t x):=rfl
theorem ND (t:TypeId) (x:List D):dA (.ifaceS t x)= .d (.ifaceS t x):=rfl
theorem Ls:D.nils.flat=true:=rfl
theorem Rp (ps:List Nat):sr ob ps=(pm ob ps).bind fun y=>if y.2.any (fun m=>ps.any (· == m))=true then none else some y:=rfl
theorem Qb:pm ob []=some ([],[]):=rfl
theorem Ry (id:Nat) (r:List Nat):pm ob (id :: r)=(fE ob (ob id)).bind fun x=>(pm ob r).bind fun y=>some (x.1 :: y.1,x.2++y.2):=by
 simp only [pm]
 cases fE ob (ob id) with
 | none=>rfl
 | some p=>simp only [Option.bind_some]; cases pm ob r <;> rfl
theorem M2:np ob []=true:=rfl
theorem Oe (id:Nat) (k:KO) (r:List (Nat×KO)):np ob ((id,k) :: r)=(fK (ob id) k&&np ob r):=rfl
theorem NH (i:Nat):enter i []=([],[]):=rfl
theorem PI (i:Nat) (x:X) (r:List X):enter i (x :: r)=((i,(ofX (fun _=>{}) i x 0).1) :: (enter (i+1) r).1,(ofX (fun _=>{}) i x 0).2.1++(enter (i+1) r).2):=rfl
def WM (ps keep:List Nat) (st:St) (m:List (Nat×Nat)):Option St:=
 if (yL (m.map (·.1))&&yL (m.map (·.2))&&m.all (fun p=>eD m st.ob (st.ob p.1).o)&&ps.all (fun p=>pM m p == some p&&(st.ob p).ver == 1))=true then
  some ⟨zw (keep.map fun n=>(n,no m st.ob (st.slot n))),zF (m.map fun p=>(p.2,⟨1,jE m st.ob (st.ob p.1).o,(st.ob p.1).leak⟩))⟩ else none
@[congr] theorem Ey {ps keep:List Nat} {st:St} {m m':List (Nat×Nat)} (h:m=m'):WM ps keep st m=WM ps keep st m':=by rw [h]
theorem HW (ps keep:List Nat):canon ps keep st=WM ps keep st (lR keep st):=rfl
theorem NJ (ps keep:List Nat) (m:List (Nat×Nat)):WM ps keep ⟨s,ob⟩ m=
 if (yL (m.map (·.1))&&yL (m.map (·.2))&&m.all (fun p=>eD m ob (ob p.1).o)&&ps.all (fun p=>pM m p == some p&&(ob p).ver == 1))=true then
  some ⟨zw (keep.map fun n=>(n,no m ob (s n))),zF (m.map fun p=>(p.2,⟨1,jE m ob (ob p.1).o,(ob p.1).leak⟩))⟩ else none:=rfl
theorem LL (keep:List Nat):lR keep ⟨s,ob⟩=bp [] (keep.flatMap fun n=>ef ob (oid n 0) (s n)):=rfl
def IS (ob:Nat→Ob) (x:Ob) (base id ver:Nat):List (Nat×Nat):=match x.o with
 | .box cells=>if x.ver=ver then (id,base) :: ny ob (base+1) cells else []
 | _=>[]
theorem EZ (base:Nat) (x:D):ef ob base (.d x)=[]:=rfl
theorem Il (base:Nat):ef ob base .nil=[]:=rfl
theorem OA (base:Nat):ef ob base .undef=[]:=rfl
theorem HV (base:Nat) (cs:List D):ef ob base (.cp cs)=[]:=rfl
theorem Ix (base id ver:Nat):ef ob base (.row id ver)=if (ob id).ver=ver then [(id,base)] else []:=rfl
theorem Jg (base id ver o:Nat):ef ob base (.rad id ver o)=[]:=rfl
theorem Jk (base:Nat) (cs:List A):ef ob base (.tup cs)=[]:=rfl
theorem Kr (base id ver o:Nat):ef ob base (.adr id ver o)=IS ob (ob id) base id ver:=rfl
theorem KA (base:Nat) (cs:List A):ef ob base (.agg cs)=ny ob (base+1) cs:=rfl
theorem NP (base id ver v:Nat) (cells:List A) (lk:Bool):IS ob ⟨v,.box cells,lk⟩ base id ver=if v=ver then (id,base) :: ny ob (base+1) cells else []:=rfl
theorem Rb (base:Nat):ny ob base []=[]:=rfl
theorem UO (base:Nat) (a:A) (r:List A):ny ob base (a :: r)=eR ob base a++ny ob (base+1) r:=rfl
theorem NV (base:Nat) (x:D):eR ob base (.d x)=[]:=rfl
theorem Qg (base:Nat):eR ob base .nil=[]:=rfl
theorem R1 (base id ver:Nat):eR ob base (.row id ver)=if (ob id).ver=ver then [(id,base)] else []:=rfl
theorem PO (acc:List (Nat×Nat)):bp acc []=acc:=rfl
theorem Qr (acc:List (Nat×Nat)) (i j:Nat) (r:List (Nat×Nat)):bp acc ((i,j) :: r)=bp (if (acc.any (fun p=>p.1 == i))=true then acc else acc++[(i,j)]) r:=rfl
theorem Nz (n:Nat):pM [] n=none:=rfl
theorem O8 (i j n:Nat) (r:List (Nat×Nat)):pM ((i,j) :: r) n=if n=i then some j else pM r n:=rfl
def Nc (o:Option Nat):A:=match o with | some j=> .row j 1 | none=> .undef
def MB (o:Option Nat) (off:Nat):A:=match o with | some j=> .adr j 1 off | none=> .undef
theorem Kc (j:Nat):Nc (some j)= .row j 1:=rfl
theorem Ir (j off:Nat):MB (some j) off= .adr j 1 off:=rfl
theorem FZ (m:List (Nat×Nat)) (x:D):no m ob (.d x)= .d x:=rfl
theorem KV (m:List (Nat×Nat)):no m ob .nil= .nil:=rfl
theorem Oc (m:List (Nat×Nat)):no m ob .undef= .undef:=rfl
theorem He (m:List (Nat×Nat)) (cs:List D):no m ob (.cp cs)= .cp cs:=rfl
theorem KH (m:List (Nat×Nat)) (id ver:Nat):no m ob (.row id ver)=if (ob id).ver=ver then Nc (pM m id) else .undef:=rfl
theorem IG (m:List (Nat×Nat)) (id ver off:Nat):no m ob (.adr id ver off)=if (ob id).ver=ver then MB (pM m id) off else .undef:=rfl
theorem Ic (m:List (Nat×Nat)) (id ver off:Nat):no m ob (.rad id ver off)= .undef:=rfl
theorem KP (m:List (Nat×Nat)) (cs:List A):no m ob (.agg cs)= .agg (jt m ob cs):=rfl
theorem Jn (m:List (Nat×Nat)) (cs:List A):no m ob (.tup cs)= .tup (jt m ob cs):=rfl
theorem MM (m:List (Nat×Nat)):jt m ob []=[]:=rfl
theorem P0 (m:List (Nat×Nat)) (a:A) (r:List A):jt m ob (a :: r)=no m ob a :: jt m ob r:=rfl
theorem Rz:yL []=true:=rfl
theorem VZ (x:Nat) (r:List Nat):yL (x :: r)=(!(r.any (· == x))&&yL r):=rfl
theorem GT {α:Type} (f:α→Bool):List.any [] f=false:=rfl
theorem any_cons {α:Type} (f:α→Bool) (a:α) (l:List α):List.any (a :: l) f=(f a||List.any l f):=rfl
theorem FY {α β:Type} (f:α→List β):List.flatMap f []=[]:=rfl
theorem Fu {α β:Type} (f:α→List β) (a:α) (l:List α):List.flatMap f (a :: l)=f a++List.flatMap f l:=by simp
theorem zag {α:Type} (a:α) (l:List α):(a :: l)[0]? =some a:=rfl
theorem AJ {α:Type} (a:α) (l:List α) (n:Nat):(a :: l)[n+1]? =l[n]? :=rfl
theorem DA {α:Type} (l:List α):l.drop 0=l:=rfl
theorem Dr {α:Type} (a:α) (l:List α) (n:Nat):(a :: l).drop (n+1)=l.drop n:=rfl
theorem Gh (f:FuncId) (live:List Nat) (d:Nat) (a:A) (u:Nat×Ob) (us:List (Nat×Ob)) (L:List SOper):xE E live (some d) (.call f) (some (.val a (u :: us))) L k st=gT E live L k { slot:=upd st.slot d a,ob:=zq st.ob (u :: us) }:=u3 _ _ _ rfl _ _ _ _
theorem EE (live:List Nat) (d:Nat) (a:A) (u:Nat×Ob) (us:List (Nat×Ob)) (L:List SOper):xE E live (some d) .dyn (some (.val a (u :: us))) L k st=gT E live L k { slot:=upd st.slot d a,ob:=zq st.ob (u :: us) }:=u3 _ _ _ rfl _ _ _ _
theorem EM (live:List Nat) (d:Nat) (a:A) (u:Nat×Ob) (us:List (Nat×Ob)) (L:List SOper):xE E live (some d) .box (some (.val a (u :: us))) L k st=gT E live L k { slot:=upd st.slot d a,ob:=zq st.ob (u :: us) }:=u3 _ _ _ rfl _ _ _ _
theorem KS (z:List A) (live:List Nat) (d:Nat) (a:A) (u:Nat×Ob) (us:List (Nat×Ob)) (L:List SOper):xE E live (some d) (.alloc z) (some (.val a (u :: us))) L k st=gT E live L k { slot:=upd st.slot d a,ob:=zq st.ob (u :: us) }:=u3 _ _ _ rfl _ _ _ _
theorem Cb (e s l:Nat) (live:List Nat) (d:Nat) (a:A) (u:Nat×Ob) (us:List (Nat×Ob)) (L:List SOper):xE E live (some d) (lit e s l) (some (.val a (u :: us))) L k st=gT E live L k { slot:=upd st.slot d a,ob:=zq st.ob (u :: us) }:=u3 _ _ _ rfl _ _ _ _
theorem F6 (e s b:Nat) (z:List D) (live:List Nat) (d:Nat) (a:A) (u:Nat×Ob) (us:List (Nat×Ob)) (L:List SOper):xE E live (some d) (.mkS e s b z) (some (.val a (u :: us))) L k st=gT E live L k { slot:=upd st.slot d a,ob:=zq st.ob (u :: us) }:=u3 _ _ _ rfl _ _ _ _
theorem FV (e s b:Nat) (live:List Nat) (d:Nat) (a:A) (u:Nat×Ob) (us:List (Nat×Ob)) (L:List SOper):xE E live (some d) (.app e s b) (some (.val a (u :: us))) L k st=gT E live L k { slot:=upd st.slot d a,ob:=zq st.ob (u :: us) }:=u3 _ _ _ rfl _ _ _ _
theorem GS (e s b:Nat) (z:List D) (live:List Nat) (d:Nat) (a:A) (u:Nat×Ob) (us:List (Nat×Ob)) (L:List SOper):xE E live (some d) (.appZ e s b z) (some (.val a (u :: us))) L k st=gT E live L k { slot:=upd st.slot d a,ob:=zq st.ob (u :: us) }:=u3 _ _ _ rfl _ _ _ _
theorem Eo (s:Nat) (live:List Nat) (d:Nat) (a:A) (u:Nat×Ob) (us:List (Nat×Ob)) (L:List SOper):xE E live (some d) (.cut s) (some (.val a (u :: us))) L k st=gT E live L k { slot:=upd st.slot d a,ob:=zq st.ob (u :: us) }:=u3 _ _ _ rfl _ _ _ _
theorem Nd (e s b:Nat) (z:List D):SOp.isSt (.appZ e s b z)=false:=rfl
theorem J1 (s:Nat):SOp.isSt (.cut s)=false:=rfl
theorem Ho (e s b:Nat) (z:List D):SOp.quiet (.appZ e s b z)=false:=rfl
theorem DE (s:Nat):SOp.quiet (.cut s)=false:=rfl
theorem C4 (n:Nat) (live:List Nat) (d:Nat) (a:A) (u:Nat×Ob) (us:List (Nat×Ob)) (L:List SOper):xE E live (some d) (.st n) (some (.val a (u :: us))) L k st=gT E live L k { slot:=upd st.slot d a,ob:=zq st.ob (u :: us) }:=u3 _ _ _ rfl _ _ _ _
theorem Dw (n:Nat) (live:List Nat) (a:A) (us:List (Nat×Ob)) (L:List SOper):xE E live none (.st n) (some (.val a us)) L k st=gT E live L k { slot:=st.slot,ob:=zq st.ob us }:=Wj _ _ rfl _ _ _
theorem Lq (f:FuncId):SOp.isSt (.call f)=false:=rfl
theorem Jz:SOp.isSt .dyn=false:=rfl
theorem IF:SOp.isSt .box=false:=rfl
theorem PQ (z:List A):SOp.isSt (.alloc z)=false:=rfl
theorem Kp (e s l:Nat):SOp.isSt (lit e s l)=false:=rfl
theorem It (e s b:Nat) (z:List D):SOp.isSt (.mkS e s b z)=false:=rfl
theorem Ku (e s b:Nat):SOp.isSt (.app e s b)=false:=rfl
theorem Fm (n:Nat):SOp.isSt (.st n)=true:=rfl
theorem LH (i v:Nat):uk (.row i v)=[i]:=rfl
theorem Ki (i v o:Nat):uk (.adr i v o)=[i]:=rfl
theorem LU (i v o:Nat):uk (.rad i v o)=[i]:=rfl
theorem EV (x:D):uk (.d x)=[]:=rfl
theorem J5:uk .nil=[]:=rfl
theorem PL:uk .undef=[]:=rfl
theorem HF (x:List D):uk (.cp x)=[]:=rfl
theorem JI (cs:List A):uk (.agg cs)=cs.flatMap nC:=rfl
theorem Kz (cs:List A):uk (.tup cs)=cs.flatMap nC:=rfl
theorem M9 (i v:Nat):nC (.row i v)=[i]:=rfl
theorem NG (i v o:Nat):nC (.adr i v o)=[i]:=rfl
theorem I9 (x:D):nC (.d x)=[]:=rfl
theorem MO:nC .nil=[]:=rfl
theorem Qz (op:SOp):rl op ob []=[]:=rfl
theorem T5 (op:SOp) (i:Nat) (x:Ob) (r:List (Nat×Ob)):rl op ob ((i,x) :: r)=if (!op.isSt&&x.leak&&x.ver == (ob i).ver)=true then rl op ob r else i :: rl op ob r:=rfl
end
section
variable {Γ:Ctx} {ob:Nat→Ob} {d:Nat}
theorem Bt (id ver off:Nat):eval Γ ob d (.ld none) [.adr id ver off]=(ed (ob id) ver).bind fun cells=>(cells[off]?).bind fun a=>some (.val a []):=rfl
theorem D3 (n id ver off:Nat):eval Γ ob d (.ld (some n)) [.adr id ver off]=(ed (ob id) ver).bind fun cells=>if off+n ≤ cells.length then some (.val (.agg ((cells.drop off).take n)) []) else none:=rfl
theorem Br (off id ver o:Nat):eval Γ ob d (.fa off) [.adr id ver o]=(ed (ob id) ver).bind fun _=>some (.val (.adr id ver (o+off)) []):=rfl
theorem Ba (n id ver off:Nat) (a:A):eval Γ ob d (.st n) [.adr id ver off,a]=(ed (ob id) ver).bind fun cells=>
   if off+n ≤ cells.length∧(cellsOf a).length=n∧(cellsOf a).all one=true then
    some (.val .undef [(id,⟨(ob id).ver,.box (cells.take off++cellsOf a++cells.drop (off+n)),(ob id).leak⟩)]) else none:=rfl
theorem LG (id ver off:Nat):eval Γ ob d .nilck [.adr id ver off]=(ed (ob id) ver).bind fun _=>some (.val (.adr id ver off) []):=rfl
theorem EL (a:A):eval Γ ob d .box [a]=if (cellsOf a).all one=true then some (.val (.adr (oid d 0) ((ob (oid d 0)).ver+1) 0) [(oid d 0,⟨(ob (oid d 0)).ver+1,.box (cellsOf a),false⟩)]) else none:=rfl
theorem JA (cells:List A):eval Γ ob d (.alloc cells) []=if cells.all one=true then some (.val (.adr (oid d 0) ((ob (oid d 0)).ver+1) 0) [(oid d 0,⟨(ob (oid d 0)).ver+1,.box cells,false⟩)]) else none:=rfl
theorem Ce (zero:List A) (parts:List (Nat×Nat)) (as:List A):eval Γ ob d (.bld zero parts) as=(eI zero parts as).bind fun cs=>some (.val (.agg cs) []):=rfl
theorem EU (off:Nat) (cs:List A):eval Γ ob d (.fld off none) [.agg cs]=(cs[off]?).bind fun a=>some (.val a []):=rfl
theorem HK (off n:Nat) (cs:List A):eval Γ ob d (.fld off (some n)) [.agg cs]=if off+n ≤ cs.length then some (.val (.agg ((cs.drop off).take n)) []) else none:=rfl
theorem DU (i:Nat) (cs:List A):eval Γ ob d (.ext i) [.tup cs]=(cs[i]?).bind fun a=>some (.val a []):=rfl
theorem FW (k k':IntKind) (n:Int):eval Γ ob d (.cvt k) [.d (.int k' n)]=some (.val (.d (.int k (k.wrap n))) []):=rfl
theorem Bs (max:Bool) (k:IntKind) (a b:Int):eval Γ ob d (.mm max) [.d (.int k a),.d (.int k b)]=some (.val (.d (.int k (if max=true then (if a < b then b else a) else (if b < a then b else a)))) []):=by simp [eval,ok]
theorem Da (k:IntKind) (a b:Int):eval Γ ob d (.bin .quo) [.d (.int k a),.d (.int k b)]=if b=0 then none else some (.val (.d (.int k (k.wrap (a.tdiv b)))) []):=by
 simp only [eval,tH,sU,ok,if_true]; split <;> rfl
theorem CK (k:IntKind) (a b:Int):eval Γ ob d (.bin .rem) [.d (.int k a),.d (.int k b)]=if b=0 then none else some (.val (.d (.int k (a.tmod b))) []):=by
 simp only [eval,tH,sU,ok,if_true]; split <;> rfl
theorem GU (t:Nat) (x:D):eval Γ ob d .pan [.d (.iface t x)]=some (.pan (.iface t x) []):=rfl
theorem HP (t:Nat) (xs:List D):eval Γ ob d .pan [.d (.ifaceS t xs)]=some (.pan (.ifaceS t xs) []):=rfl
theorem Dj (f:FuncId):eval Γ ob d (.mkF f) []=some (.val (.d (.fn f)) []):=rfl
theorem E9 (t:TypeId) (x:D):eval Γ ob d (.mkI t) [.d x]=some (.val (.d (.iface t x)) []):=rfl
theorem HT (t:TypeId) (cs:List A):eval Γ ob d (.mkI t) [.agg cs]=(xm ob cs).bind fun p=>some (.val (.d (.ifaceS t p.1)) (zX ob p.2)):=rfl
theorem Hf (e size len:Nat) (parts:List (Nat×Nat)) (as:List A):eval Γ ob d (.bldS e size len parts) as=
  if parts=(List.range len).map (fun i=>(i * size,size))∧as.length=len∧(as.all fun a=>decide ((cellsOf a).length=size))=true then
   (xm ob (as.flatMap cellsOf)).bind fun p=>some (.val (.row (oid d 0) ((ob (oid d 0)).ver+1)) (zX ob p.2++[(oid d 0,⟨(ob (oid d 0)).ver+1,.row e size len (some len) p.1,false⟩)])) else none:=by
 simp only [eval]; rfl
def WZ (e size len:Nat) (xs:List D):O:= .row e size len (some len) xs
def Q8 (e size n:Nat) (cap:Nat) (zero:List D):O:= .row e size n (some cap) (List.replicate n zero).flatten
theorem Cc (e size len:Nat) (as:List A):eval Γ ob d (lit e size len) as=
  if as.length=len∧(as.all fun a=>decide ((cellsOf a).length=size))=true then
   (xm ob (as.flatMap cellsOf)).bind fun p=>some (.val (.row (oid d 0) ((ob (oid d 0)).ver+1)) (zX ob p.2++[(oid d 0,⟨(ob (oid d 0)).ver+1,WZ e size len p.1,false⟩)])) else none:=by
 unfold lit WZ
 rw [Hf]
 by_cases h:as.length=len∧(as.all fun a=>decide ((cellsOf a).length=size))=true
 ·rw [if_pos h,if_pos ⟨rfl,h.1,h.2⟩]
 ·rw [if_neg h,if_neg (fun q=>h q.2)]
def Za (bytes:Nat) (l c:Int):Prop:=0 ≤ l∧l ≤ c∧(bytes:Int) * c ≤ sm∧c ≤ 9223372036854775807
instance (b:Nat) (l c:Int):Decidable (Za b l c):=by unfold Za; infer_instance
theorem CC (e size bytes:Nat) (zero:List D) (k k':IntKind) (l c:Int):eval Γ ob d (.mkS e size bytes zero) [.d (.int k l),.d (.int k' c)]=
  if Za bytes l c then if zero.length=size∧0 < size then
   some (.val (.row (oid d 0) ((ob (oid d 0)).ver+1)) [(oid d 0,⟨(ob (oid d 0)).ver+1,Q8 e size l.toNat c.toNat zero,false⟩)]) else none else none:=by
 by_cases h:Za bytes l c
 ·rw [if_pos h]
  by_cases h':zero.length=size∧0 < size
  ·rw [if_pos h']
   exact if_pos ⟨h.1,h.2.1,h.2.2.1,h.2.2.2,h'.1,h'.2⟩
  ·rw [if_neg h']
   exact if_neg (fun q=>h' ⟨q.2.2.2.2.1,q.2.2.2.2.2⟩)
 ·rw [if_neg h]
  exact if_neg (fun q=>h ⟨q.1,q.2.1,q.2.2.1,q.2.2.2.1⟩)
theorem H5 (a b:List UInt8):eval Γ ob d (.bin .add) [.d (sD a),.d (sD b)]=if TC (a++b).length then some (.val (.d (sD (a++b))) []) else none:=by
 simp only [eval,tH,fF,sD,TC,List.length_append]
 have h1:(ByteArray.mk a.toArray).size=a.length:=rfl
 have h2:(ByteArray.mk b.toArray).size=b.length:=rfl
 rw [h1,h2]
 split
 ·simp only [Option.bind_some,ok]
  congr 5
 ·rfl
theorem Gi (a b:List UInt8):eval Γ ob d (.bin .eql) [.d (sD a),.d (sD b)]=some (.val (.d (.bool (decide (a=b)))) []):=by
 simp only [eval,tH,fF,sD,bN,Option.bind_some,ok]
 congr 4
 exact (Bool.beq_eq_decide_eq a b)
theorem Gv (a b:List UInt8):eval Γ ob d (.bin .neq) [.d (sD a),.d (sD b)]=some (.val (.d (.bool (!decide (a=b)))) []):=by
 simp only [eval,tH,fF,sD,bN,Option.bind_some,ok]
 congr 5
 exact (Bool.beq_eq_decide_eq a b)
def TF (a b:List UInt8):Bool:=Op.bytesLess a b
theorem HY (a b:List UInt8):eval Γ ob d (.bin .lss) [.d (sD a),.d (sD b)]=some (.val (.d (.bool (TF a b))) []):=by
 simp only [eval,tH,fF,sD,bN,Option.bind_some,ok,TF]
theorem I1 (a b:List UInt8):eval Γ ob d (.bin .geq) [.d (sD a),.d (sD b)]=some (.val (.d (.bool (!TF a b))) []):=by
 simp only [eval,tH,fF,sD,bN,Option.bind_some,ok,TF]
theorem NM (z:List A):eI z [] []=some z:=rfl
theorem Pt (z:List A) (off size:Nat) (ps:List (Nat×Nat)) (a:A) (r:List A):eI z ((off,size) :: ps) (a :: r)=
  if (cellsOf a).length=size∧off+size ≤ z.length∧(cellsOf a).all one=true then eI (z.take off++cellsOf a++z.drop (off+size)) ps r else none:=rfl
theorem Qm (i v:Nat):cellsOf (.row i v)=[.row i v]:=rfl
theorem R2:cellsOf .nil=[.nil]:=rfl
theorem Qy (i v o:Nat):cellsOf (.adr i v o)=[.adr i v o]:=rfl
theorem E2 (xs:List D):eval Γ ob d (.fa 0) [.cp xs]=some (.val (.cp xs) []):=by simp [eval,f6,ok]
theorem Db (a:D) (xs:List D):eval Γ ob d (.fa 1) [.cp (a :: xs)]=some (.val (.cp xs) []):=by simp [eval,f6,ok]
theorem DT (a b:D) (xs:List D):eval Γ ob d (.fa 2) [.cp (a :: b :: xs)]=some (.val (.cp xs) []):=by simp [eval,f6,ok]
theorem F4 (a b c:D) (xs:List D):eval Γ ob d (.fa 3) [.cp (a :: b :: c :: xs)]=some (.val (.cp xs) []):=by simp [eval,f6,ok]
theorem E4 (a b c e:D) (xs:List D):eval Γ ob d (.fa 4) [.cp (a :: b :: c :: e :: xs)]=some (.val (.cp xs) []):=by simp [eval,f6,ok]
theorem FE (a:D) (xs:List D):eval Γ ob d (.ld (some 1)) [.cp (a :: xs)]=some (.val (.agg [.d a]) []):=by simp [eval,jr,ok]
theorem GN (a b:D) (xs:List D):eval Γ ob d (.ld (some 2)) [.cp (a :: b :: xs)]=some (.val (.agg [.d a,.d b]) []):=by simp [eval,jr,ok]
theorem GJ (a b c:D) (xs:List D):eval Γ ob d (.ld (some 3)) [.cp (a :: b :: c :: xs)]=some (.val (.agg [.d a,.d b,.d c]) []):=by simp [eval,jr,ok]
theorem GP (a b c e:D) (xs:List D):eval Γ ob d (.ld (some 4)) [.cp (a :: b :: c :: e :: xs)]=some (.val (.agg [.d a,.d b,.d c,.d e]) []):=by simp [eval,jr,ok]
theorem Ca (a b c e f:D) (xs:List D):eval Γ ob d (.fa 5) [.cp (a :: b :: c :: e :: f :: xs)]=some (.val (.cp xs) []):=by simp [eval,f6,ok]
theorem HS (a b c e f:D) (xs:List D):eval Γ ob d (.ld (some 5)) [.cp (a :: b :: c :: e :: f :: xs)]=some (.val (.agg [.d a,.d b,.d c,.d e,.d f]) []):=by simp [eval,jr,ok]
theorem GQ (a b c e f g:D) (xs:List D):eval Γ ob d (.ld (some 6)) [.cp (a :: b :: c :: e :: f :: g :: xs)]=some (.val (.agg [.d a,.d b,.d c,.d e,.d f,.d g]) []):=by simp [eval,jr,ok]
theorem Li (neg:Bool):eval Γ ob d (.inil neg) [.d .nili]=some (.val (.d (.bool !neg)) []):=rfl
theorem N3 (neg:Bool) (t:TypeId) (x:D):eval Γ ob d (.inil neg) [.d (.iface t x)]=some (.val (.d (.bool neg)) []):=rfl
theorem NT (neg:Bool) (t:TypeId) (xs:List D):eval Γ ob d (.inil neg) [.d (.ifaceS t xs)]=some (.val (.d (.bool neg)) []):=rfl
theorem D0 (t u:TypeId) (x:D):eval Γ ob d (.ta t) [.d (.iface u x)]=if u=t then some (.val (.tup [.d x,.d (.bool true)]) []) else none:=rfl
theorem D8 (t u:TypeId) (xs:List D):eval Γ ob d (.ta t) [.d (.ifaceS u xs)]=if u=t then some (.val (.tup [.agg (xs.map .d),.d (.bool true)]) []) else none:=rfl
theorem Dt (n size id ver o:Nat) (k:IntKind) (i:Int):eval Γ ob d (.iaa n size) [.adr id ver o,.d (.int k i)]=
  (ed (ob id) ver).bind fun _=>if 0 ≤ i∧i < (n:Int) then some (.val (.adr id ver (o+i.toNat * size)) []) else none:=rfl
theorem DN (n size:Nat) (cs:List A) (k:IntKind) (i:Int):eval Γ ob d (.ixa n size none) [.agg cs,.d (.int k i)]=
  if 0 ≤ i∧i < (n:Int) then (cs[i.toNat * size]?).bind fun a=>some (.val a []) else none:=rfl
def tab {α:Type}:List α→Nat→Nat→Option α
 | [],_,_=>none
 | a :: l,n,j=>if n=j then some a else tab l n (j+1)
theorem Fy {α:Type} (n j:Nat):tab ([]:List α) n j=none:=rfl
theorem KC {α:Type} (a:α) (l:List α) (n j:Nat):tab (a :: l) n j=if n=j then some a else tab l n (j+1):=rfl
theorem VL {α:Type}:∀ (l:List α) (n j:Nat),tab l (n+j) j=l[n]?
 | [],n,j=>by simp [tab]
 | a :: l,0,j=>by simp [tab]
 | a :: l,n+1,j=>by
   simp only [tab,List.getElem?_cons_succ]
   rw [if_neg (by omega),← VL l n (j+1)]
   congr 1; omega
theorem CO {α:Type} (a:α) (l:List α) (i:Int) (s:Nat):(a :: l)[i.toNat * s]? =tab (a :: l) (i.toNat * s) 0:=(VL (a :: l) (i.toNat * s) 0).symm
theorem Hz {α:Type} (a:α) (l:List α) (i:Int):(a :: l)[i.toNat]? =tab (a :: l) i.toNat 0:=(VL (a :: l) i.toNat 0).symm
theorem Ft {E:En} {k:List KJ} {st:St} (b:Cd) (id ver off:Nat):gFz E b k st (.adr id ver off)=(ed (st.ob id) ver).bind fun cells=>(xm st.ob cells).bind fun p=>
  G E b k { slot:=st.slot,ob:=zq st.ob (zX st.ob p.2++[(id,⟨(st.ob id).ver,.box (p.1.map dA),(st.ob id).leak⟩)]) }:=rfl
def Y9 (a:A) (p:Prop) [Decidable p] (q:IntKind) (x:Int):A:=match a with
 | .d (.int q' y)=>if q'=q then .d (.int q (if p then x else y)) else if p then .d (.int q x) else a
 | _=>if p then .d (.int q x) else a
theorem Vf (a:A) (p:Prop) [Decidable p] (q:IntKind) (x:Int):Y9 a p q x=if p then .d (.int q x) else a:=by
 unfold Y9
 split
 ·split
  ·rename_i e; subst e; split <;> rfl
  ·rfl
 ·rfl
theorem Ru (y:Int) (p:Prop) [Decidable p] (q:IntKind) (x:Int):Y9 (.d (.int q y)) p q x= .d (.int q (if p then x else y)):=by
 unfold Y9; simp
theorem zaE (y:Int) (p:Prop) [Decidable p] (x:Int):Y9 (.d (iD y)) p .i64 x= .d (.int .i64 (if p then x else y)):=Ru y p .i64 x
theorem C7 (n:Int):A.d (iD n)= .d (.int .i64 n):=rfl
def Xo:List A→Nat→Nat→IntKind→Int→List A
 | [],_,_,_,_=>[]
 | a :: l,k,j,q,x=>Y9 a (j=k) q x :: Xo l (k+1) j q x
theorem Jj (k j:Nat) (q:IntKind) (x:Int):Xo [] k j q x=[]:=rfl
theorem d3 (a:A) (l:List A) (k j:Nat) (q:IntKind) (x:Int):Xo (a :: l) k j q x=Y9 a (j=k) q x :: Xo l (k+1) j q x:=rfl
theorem Ug:∀ (l:List A) (k j:Nat) (q:IntKind) (x:Int),j < k→Xo l k j q x=l
 | [],_,_,_,_,_=>rfl
 | a :: l,k,j,q,x,h=>by rw [d3,Vf,if_neg (by omega),Ug l (k+1) j q x (by omega)]
theorem Pe:∀ (l:List A) (k j:Nat) (q:IntKind) (x:Int),j < l.length→Xo l k (k+j) q x=l.take j++[.d (.int q x)]++l.drop (j+1)
 | [],k,j,q,x,h=>by simp at h
 | a :: l,k,0,q,x,h=>by rw [d3,Vf,if_pos (by omega),Ug l (k+1) (k+0) q x (by omega)]; simp
 | a :: l,k,j+1,q,x,h=>by
   rw [d3,Vf,if_neg (by omega),show k+(j+1)=k+1+j by omega,Pe l (k+1) j q x (by simpa using h)]
   simp
theorem D7 (i:Int) (s id v:Nat) (q:IntKind) (x:Int) (lk:Bool) (cells:List A):
  (if i.toNat * s+1 ≤ cells.length∧(cellsOf (.d (.int q x))).length=1∧(cellsOf (.d (.int q x))).all one=true then
    some (Out.val .undef [(id,⟨v,.box (cells.take (i.toNat * s)++cellsOf (.d (.int q x))++cells.drop (i.toNat * s+1)),lk⟩)]) else none)
  =if i.toNat * s < cells.length then some (Out.val .undef [(id,⟨v,.box (Xo cells 0 (i.toNat * s) q x),lk⟩)]) else none:=by
 have e1:(cellsOf (.d (.int q x))).length=1∧(cellsOf (.d (.int q x))).all one=true:=⟨rfl,rfl⟩
 by_cases h:i.toNat * s < cells.length
 ·rw [if_pos ⟨by omega,e1⟩,if_pos h]
  have:=Pe cells 0 (i.toNat * s) q x h
  rw [Nat.zero_add] at this
  rw [this]; rfl
 ·rw [if_neg (fun p=>by omega),if_neg h]
def stB (x:Option (List D×List Nat)):O:=match x with
 | some (xs,_)=> .box (xs.map dA)
 | none=> .dead
@[congr] theorem Af {x x':Option (List D×List Nat)} (h:x=x'):stB x=stB x':=by rw [h]
theorem Kv (xs:List D) (l:List Nat):stB (some (xs,l))= .box (xs.map dA):=rfl
theorem OI (cells:List A):m5 ob (.box cells)=stB (xm ob cells):=by
 simp only [m5]
 cases xm ob cells <;> rfl
theorem Kn {α:Type} (c:Enc α) (e:Nat) (cap:Option Nat) (l:List α):m5 ob (yg c e cap l)= .dead:=rfl
theorem Ov:Zc [] ob=[]:=rfl
theorem RW (id:Nat) (r:List Nat):Zc (id :: r) ob=(id,⟨(ob id).ver,m5 ob (ob id).o,false⟩) :: Zc r ob:=rfl
@[congr] theorem Bo {E:En} {ids da:List Nat} {x:D} {st st':St} (h:st=st'):Rn E ids da x st=Rn E ids da x st':=by rw [h]
@[congr] theorem A1 {E:En} {b:Cd} {st st':St} (h:st=st'):gB E b st=gB E b st':=by rw [h]
end
end Go.Vm
