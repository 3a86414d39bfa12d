/- The rules by which a call is rewritten into a plain Lean function, bundled. -/
import Derived.Test.YtpjfklhaogdfeaaVmObj
set_option linter.unusedSectionVars false
set_option linter.unusedSimpArgs false
set_option linter.unusedVariables false
namespace Go.Vm
def gS (E:En) (k:List KJ) (st:St):Option XOut:=yk E k (.normal,st)
def gE (E:En) (k:List KJ) (e:Ex) (st:St):Option XOut:=yk E k (e,st)
@[congr] theorem Fu {E:En} {k:List KJ} {st st':St} (h:st=st'):gS E k st=gS E k st':=by rw [h]
@[congr] theorem Gc {α:Type} {c c':Option Bool} {x y:Option α} (h:c=c'):gIf c x y=gIf c' x y:=by rw [h]
@[congr] theorem Hz {E:En} {d:Option Nat} {x x':Option Out} {l:List SOper} {k:List KJ} {st:St} (h:x=x'):vS E d x l k st=vS E d x' l k st:=by rw [h]
@[congr] theorem IK {E:En} {v:List Nat} {d:Option Nat} {op:SOp} {x x':Option Out} {l:List SOper} {k:List KJ} {st:St} (h:x=x'):
   yO E v d op x l k st=yO E v d op x' l k st:=by rw [h]
@[congr] theorem GX {E:En} {keep:List Nat} {b:Cd} {m:Nat} {k:List KJ} {x x':Option St} (h:x=x'):gC E keep b m k x=gC E keep b m k x':=by rw [h]
def sel {α:Type} (c:Bool) (x y:α):α:=match c with
 | true=>x
 | false=>y
@[congr] theorem H2 {α:Type} {c c':Bool} {x y:α} (h:c=c'):sel c x y=sel c' x y:=by rw [h]
theorem FZ {α:Type} (x y:α):sel true x y=x:=rfl
theorem FY {α:Type} (x y:α):sel false x y=y:=rfl
theorem Wz {α:Type} (f:Nat→α) (n m:Nat) (v:α):upd f n v m=sel (m == n) v (f m):=by
 unfold upd sel
 by_cases h:m=n
 ·subst h; simp
 ·rw [if_neg h]
  have:(m == n)=false:=by simpa using h
  rw [this]
theorem HX (i:Nat) (a:A) (r:List (Nat×A)) (n:Nat):zo ((i,a) :: r) n=sel (n == i) a (zo r n):=Wz (zo r) i n a
theorem FE (i:Nat) (o:Ob) (r:List (Nat×Ob)) (n:Nat):zw ((i,o) :: r) n=sel (n == i) o (zw r n):=Wz (zw r) i n o
@[congr] theorem HI {Γ:Ctx} {ob:Nat→Ob} {d:Nat} {op:SOp} {as as':List A} (h:as=as'):eval Γ ob d op as=eval Γ ob d op as':=by rw [h]
section
variable {E:En} {k:List KJ} {st:St} {s:Nat→A} {ob:Nat→Ob}
theorem OV (l:List (Nat×A)) (ob:Nat→Ob):gS E k ⟨zo l,ob⟩=yk E k (.normal,⟨zo l,ob⟩):=rfl
theorem GK (live:List Nat):yk E (.v live :: k) (.normal,st)=gS E k ⟨zo (live.map fun n=>(n,st.slot n)),st.ob⟩:=rfl
theorem Lq (live:List Nat):kR E live k (.normal,st)=yk E (.v live :: k) (.normal,st):=rfl
theorem My (live:List Nat) (x:D):kR E live k (.panic x,st)=yk E k (.panic x,st.forget E.ps):=rfl
theorem N2 (keep:List Nat) (b:Cd) (m:Nat):gL E keep b m k st=gC E keep b m k (canon E.ps keep st):=Ht keep b m
theorem OK {α:Type} (b:Bool) (x y:Option α):gIf (some b) x y=if b=true then x else y:=by cases b <;> rfl
theorem OF {α:Type} (x y:Option α):gIf (some true) x y=x:=rfl
theorem OC {α:Type} (x y:Option α):gIf (some false) x y=y:=rfl
theorem zr {α β:Type} (p:Prop) [Decidable p] (x y:Option α) (f:α→Option β):(if p then x else y).bind f=if p then x.bind f else y.bind f:=by split <;> rfl
theorem F2 (b:Bool):(b=true)=(b=true):=rfl
def dR (fl:TypeId→Bool) (ob:Nat→Ob) (d:Nat) (ls ms:List Nat) (x:Option XOut):Option Out:=x.bind fun
    | .ret x outs=>(xe ob ms outs).map fun bs=> .val (yY (zh ob bs) ms x (ofX (zh ob bs) d x 0).1) ((if yT fl x&&outs.all qK then [] else zt ob ls)++(bs++(ofX (zh ob bs) d x 0).2.1))
    | .pan x outs=>(xe ob ms outs).map fun bs=> .pan x (zt ob ls++bs)
def au (c:Bool) (ob:Nat→Ob) (ls:List Nat):List (Nat×Ob):=if c=true then [] else zt ob ls
@[congr] theorem HR {c c':Bool} {ob:Nat→Ob} {ls:List Nat} (h:c=c'):au c ob ls=au c' ob ls:=by rw [h]
theorem UX (ob:Nat→Ob) (ls:List Nat):au true ob ls=[]:=rfl
theorem Rb (c:Bool) (ob:Nat→Ob):au c ob []=[]:=by cases c <;> rfl
theorem Ru (ob:Nat→Ob) (ls:List Nat):au false ob ls=zt ob ls:=rfl
theorem NG (fl:TypeId→Bool) (x:D):yT fl (.d x)=x.flat:=by simp only [yT]
theorem Tp (fl:TypeId→Bool):yT fl .nil=true:=by simp only [yT]
theorem TT (fl:TypeId→Bool) (xs:List X):yT fl (.agg xs)=uX fl xs:=by simp only [yT]
theorem UU (fl:TypeId→Bool) (xs:List X):yT fl (.tup xs)=uX fl xs:=by simp only [yT]
theorem Se (fl:TypeId→Bool) (xs:List X):yT fl (.box xs)=uX fl xs:=by simp only [yT]
theorem UI (fl:TypeId→Bool):uX fl []=true:=by simp only [uX]
theorem Wf (fl:TypeId→Bool) (x:X) (xs:List X):uX fl (x :: xs)=(yT fl x&&uX fl xs):=by simp only [uX]
theorem Rx (k:IntKind) (n:Int):(D.int k n).flat=true:=rfl
theorem Tk (b:Bool):(D.bool b).flat=true:=rfl
theorem Q2 (l:List UInt8):(sD l).flat=true:=rfl
theorem NL (f:FuncId):(D.fn f).flat=true:=rfl
theorem SO:D.nilp.flat=true:=rfl
theorem Sl:D.nilf.flat=true:=rfl
theorem TI:D.nili.flat=true:=rfl
theorem VV (t:TypeId) (x:D):(D.iface t x).flat=false:=rfl
theorem X1 (t:TypeId) (x:List D):(D.ifaceS t x).flat=false:=rfl
theorem Ss:(D.lst 0 []).flat=false:=rfl
theorem KF {α:Type} (c:Enc α) (l:List α):(zf c l).flat=false:=rfl
theorem V5 (ds:List D):qK ds=ds.all D.flat:=rfl
def dC (Γ:Ctx) (ob:Nat→Ob) (d:Nat) (f:FuncId) (x:Option (List X×List Nat×List Nat)):Option Out:=x.bind fun p=>
 if yh p.2.2&&!(p.2.2.any fun m=>p.2.1.any (· == m)) then dR Γ.fl ob d p.2.1 p.2.2 (Γ f p.1) else none
@[congr] theorem Fo {fl:TypeId→Bool} {ob:Nat→Ob} {d:Nat} {ls ms:List Nat} {x x':Option XOut} (h:x=x'):dR fl ob d ls ms x=dR fl ob d ls ms x':=by rw [h]
@[congr] theorem Fw {Γ:Ctx} {ob:Nat→Ob} {d:Nat} {f:FuncId} {x x':Option (List X×List Nat×List Nat)} (h:x=x'):dC Γ ob d f x=dC Γ ob d f x':=by rw [h]
theorem XL (Γ:Ctx) (ob:Nat→Ob) (d:Nat) (as:List A):eval Γ ob d .dyn (.d .nilf :: as)=none:=rfl
theorem R5 (Γ:Ctx) (ob:Nat→Ob) (d:Nat) (f:FuncId) (as:List A):eval Γ ob d (.call f) as=dC Γ ob d f (vO (Γ.mu f) ob as):=rfl
theorem Me (Γ:Ctx) (ob:Nat→Ob) (d:Nat) (f:FuncId) (as:List A):eval Γ ob d .dyn (.d (.fn f) :: as)=dC Γ ob d f (vO (Γ.mu f) ob as):=rfl
theorem NX (Γ:Ctx) (ob:Nat→Ob) (d:Nat) (f:FuncId) (xs:List X) (ls ms:List Nat):dC Γ ob d f (some (xs,ls,ms))=
  if (yh ms&&!(ms.any fun m=>ls.any (· == m)))=true then dR Γ.fl ob d ls ms (Γ f xs) else none:=rfl
theorem MP {α:Type} (fl:TypeId→Bool) (ob:Nat→Ob) (d:Nat) (ls ms:List Nat) (x:Option α) (f:α→Option XOut):dR fl ob d ls ms (x.bind f)=x.bind fun y=>dR fl ob d ls ms (f y):=by
 unfold dR; rw [Option.bind_assoc]
theorem KU (fl:TypeId→Bool) (ob:Nat→Ob) (d:Nat) (ls ms:List Nat) (x:X) (outs:List (List D)):dR fl ob d ls ms (some (.ret x outs))=
  (xe ob ms outs).bind fun bs=>some (.val (yY (zh ob bs) ms x (ofX (zh ob bs) d x 0).1) (au (yT fl x&&outs.all qK) ob ls++(bs++(ofX (zh ob bs) d x 0).2.1))):=by
 simp only [dR,Option.bind_some]; cases xe ob ms outs <;> rfl
theorem LR (fl:TypeId→Bool) (ob:Nat→Ob) (d:Nat) (ls ms:List Nat) (x:D) (outs:List (List D)):dR fl ob d ls ms (some (.pan x outs))=
  (xe ob ms outs).bind fun bs=>some (.pan x (zt ob ls++bs)):=by
 simp only [dR,Option.bind_some]; cases xe ob ms outs <;> rfl
theorem MJ (fl:TypeId→Bool) (ob:Nat→Ob) (d:Nat) (ls ms:List Nat):dR fl ob d ls ms none=none:=rfl
theorem TD (ob:Nat→Ob):xe ob [] []=some []:=rfl
theorem Un (ob:Nat→Ob) (id:Nat) (r:List Nat) (ds:List D) (xs:List (List D)):xe ob (id :: r) (ds :: xs)=
  (om (ob id) ds).bind fun x=>(xe ob r xs).bind fun y=>some ((id,x) :: y):=by
 simp only [xe]
 cases om (ob id) ds with
 | none=>rfl
 | some x=>cases xe ob r xs <;> rfl
theorem TQ (v:Nat) (cells:List A) (lk:Bool) (ds:List D):om ⟨v,.box cells,lk⟩ ds=some ⟨v,.box (ds.map dA),false⟩:=rfl
theorem TM (ob:Nat→Ob):zt ob []=[]:=rfl
theorem VW (ob:Nat→Ob) (i:Nat) (r:List Nat):zt ob (i :: r)=(i,⟨(ob i).ver,(ob i).o,true⟩) :: zt ob r:=rfl
theorem HT (m:Bool) (x:D):toX m ob (.d x)=some (.d x,[],[]):=rfl
theorem Qz:toX false ob .nil=some (.d (.lst 0 []),[],[]):=rfl
theorem QS:toX true ob .nil=some (.nil,[],[]):=rfl
theorem Mr (m:Bool) (cs:List A):toX m ob (.agg cs)=(vO m ob cs).bind fun p=>some (.agg p.1,p.2.1,p.2.2):=by
 simp only [toX]; cases vO m ob cs <;> rfl
theorem Q5 (m:Bool):vO m ob []=some ([],[],[]):=rfl
theorem Tq (m:Bool) (a:A) (r:List A):vO m ob (a :: r)=(toX m ob a).bind fun p=>(vO m ob r).bind fun q=>some (p.1 :: q.1,p.2.1++q.2.1,p.2.2++q.2.2):=by
 simp only [vO]
 cases toX m ob a with
 | none=>rfl
 | some p=>obtain ⟨x,l,k⟩:=p; cases vO m ob r <;> rfl
theorem Xm:wC []=some []:=rfl
theorem Ug (x:D) (r:List A):wC (.d x :: r)=(wC r).bind fun y=>some (x :: y):=by
 simp only [wC]; cases wC r <;> rfl
theorem JG (x:D):yX ob (.d x)=some (x,[]):=rfl
theorem Q4:yX ob .nil=some (.lst 0 [],[]):=rfl
theorem Ty:yH ob []=some ([],[]):=rfl
theorem W8 (a:A) (r:List A):yH ob (a :: r)=(yX ob a).bind fun p=>(yH ob r).bind fun q=>some (p.1 :: q.1,p.2++q.2):=by
 simp only [yH]
 cases yX ob a with
 | none=>rfl
 | some p=>obtain ⟨x,l⟩:=p; cases yH ob r <;> rfl
theorem HL (d:Nat) (x:D) (j:Nat):ofX ob d (.d x) j=(.d x,[],j):=rfl
theorem Ml (d:Nat) (j:Nat):ofX ob d .nil j=(.nil,[],j):=rfl
theorem N8 (d:Nat) (k j:Nat):ofX ob d (.par k) j=(.undef,[],j):=rfl
theorem TN (fl:TypeId→Bool) (k:Nat):yT fl (.par k)=true:=by simp only [yT]
theorem Ix (ms:List Nat) (x:D) (a:A):yY ob ms (.d x) a=a:=by cases a <;> rfl
theorem Qn (ms:List Nat) (a:A):yY ob ms .nil a=a:=by cases a <;> rfl
theorem R8 (ms:List Nat) (e s n:Nat) (c:Option Nat) (cells:List D) (lk:Bool) (a:A):yY ob ms (.own e s n c cells lk) a=a:=by cases a <;> rfl
theorem Rz (ms:List Nat) (xs:List X) (a:A):yY ob ms (.box xs) a=a:=by cases a <;> rfl
theorem QN (ms:List Nat) (xs:List X) (as:List A):yY ob ms (.agg xs) (.agg as)= .agg (rq ob ms xs as):=rfl
theorem Qm (ms:List Nat) (xs:List X) (as:List A):yY ob ms (.tup xs) (.tup as)= .tup (rq ob ms xs as):=rfl
def Vy (ob:Nat→Ob) (o:Option Nat):A:=match o with
 | some id=> .row id (ob id).ver
 | none=> .undef
@[congr] theorem I5 {ob:Nat→Ob} {o o':Option Nat} (h:o=o'):Vy ob o=Vy ob o':=by rw [h]
theorem U0 (id:Nat):Vy ob (some id)= .row id (ob id).ver:=rfl
theorem Qi (ms:List Nat) (k:Nat) (a:A):yY ob ms (.par k) a=Vy ob (ms[k]?):=by cases a <;> rfl
theorem So (ms:List Nat) (as:List A):rq ob ms [] as=as:=by cases as <;> rfl
theorem Uk (ms:List Nat) (x:X) (xs:List X) (a:A) (as:List A):rq ob ms (x :: xs) (a :: as)=yY ob ms x a :: rq ob ms xs as:=rfl
theorem Ng (d:Nat) (xs:List X) (j:Nat):ofX ob d (.agg xs) j=(.agg (yU ob d xs j).1,(yU ob d xs j).2.1,(yU ob d xs j).2.2):=rfl
theorem NE (d:Nat) (xs:List X) (j:Nat):ofX ob d (.tup xs) j=(.tup (yU ob d xs j).1,(yU ob d xs j).2.1,(yU ob d xs j).2.2):=rfl
theorem Ld (d:Nat) (xs:List X) (j:Nat):ofX ob d (.box xs) j=(.adr (oid d j) ((ob (oid d j)).ver+1) 0,(yU ob d xs (j+1)).2.1++[(oid d j,⟨(ob (oid d j)).ver+1,.box (yU ob d xs (j+1)).1,false⟩)],(yU ob d xs (j+1)).2.2):=rfl
theorem Q3 (d:Nat) (j:Nat):yU ob d [] j=([],[],j):=rfl
theorem Ro (d:Nat) (x:X) (r:List X) (j:Nat):yU ob d (x :: r) j=((ofX ob d x j).1 :: (yU ob d r (ofX ob d x j).2.2).1,(ofX ob d x j).2.1++(yU ob d r (ofX ob d x j).2.2).2.1,(yU ob d r (ofX ob d x j).2.2).2.2):=rfl
theorem PS {α:Type} (x:Option α) (f:α→Option XOut):fin E (x.bind f)=x.bind fun y=>fin E (f y):=by unfold fin; rw [Option.bind_assoc]
theorem Qd (y:XOut):fin E (some y)=E.wk y:=rfl
theorem Ow:fin E none=none:=rfl
theorem Nf (p:Prop) [Decidable p] (x y:Option XOut):fin E (if p then x else y)=if p then fin E x else fin E y:=by split <;> rfl
theorem Mk (x:D):tZ (.d x)=true:=rfl
theorem SF:tZ .nil=true:=rfl
theorem Rd (e s n:Nat) (c:Option Nat) (cells:List D) (lk:Bool):tZ (.own e s n c cells lk)=true:=rfl
theorem Sm (k:RK) (x:D):tZ (.res k x)=true:=rfl
theorem Si (ps:List Nat) (rs:List RV):nw ps rs (.ret,st)=(Vm.results ps st rs).bind fun x=>(vQ st.ob ps).bind fun y=>
   if (yh x.2&&!(x.2.any fun m=>y.2.any (· == m)||ps.any (· == m)))=true then some (.ret x.1 y.1) else none:=rfl
theorem Vq (ps:List Nat) (rs:List RV):nw ps rs (.normal,st)=(Vm.results ps st rs).bind fun x=>(vQ st.ob ps).bind fun y=>
   if (yh x.2&&!(x.2.any fun m=>y.2.any (· == m)||ps.any (· == m)))=true then some (.ret x.1 y.1) else none:=rfl
theorem Rr (ps:List Nat) (rs:List RV) (x:D):nw ps rs (.panic x,st)=(vQ st.ob ps).bind fun y=>some (.pan x y.1):=by
 simp only [nw]; cases vQ st.ob ps <;> rfl
theorem X7 (ps:List Nat) (rs:List RV):Vm.results ps st rs=(pi st rs).bind (jy ps st.ob):=rfl
theorem VX:pi st []=some []:=rfl
theorem X8 (r:RV) (rs:List RV):pi st (r :: rs)=(r.get st).bind fun a=>(pi st rs).bind fun y=>some (a :: y):=by
 simp only [pi]
 cases r.get st with
 | none=>rfl
 | some a=>cases pi st rs <;> rfl
theorem LQ (t:Nat):RV.get ⟨s,ob⟩ (.tmp t)=some (s t):=rfl
def W6 (ob:Nat→Ob) (n:Option Nat) (a:A):Option A:=match a with
 | .adr id ver 0=>(mP (ob id) ver).bind fun cells=>match n with
     | none=>cells[0]?
     | some n=>if n ≤ cells.length then some (.agg (cells.take n)) else none
 | _=>none
theorem MI (t:Nat) (n:Option Nat):RV.get ⟨s,ob⟩ (.cell t n)=W6 ob n (s t):=rfl
theorem Lc (id ver:Nat):W6 ob none (.adr id ver 0)=(mP (ob id) ver).bind fun cells=>cells[0]? :=rfl
theorem Ms (id ver n:Nat):W6 ob (some n) (.adr id ver 0)=(mP (ob id) ver).bind fun cells=>if n ≤ cells.length then some (.agg (cells.take n)) else none:=rfl
theorem SM (i:Nat):oK [] i=none:=rfl
theorem VB (p:Nat) (ps:List Nat) (i:Nat):oK (p :: ps) i=if i=p then some 0 else (oK ps i).map (· +1):=rfl
theorem Pa (ps:List Nat) (a:A):jy ps ob [a]=nQ ps ob a:=rfl
theorem P1 (ps:List Nat):jy ps ob []=some (.tup [],[]):=rfl
theorem Oo (ps:List Nat) (a b:A) (r:List A):jy ps ob (a :: b :: r)=(wL ps ob (a :: b :: r)).bind fun x=>some (.tup x.1,x.2):=by
 show (wL ps ob (a :: b :: r)).map _=_
 cases wL ps ob (a :: b :: r) <;> rfl
theorem R9 (ps:List Nat) (x:D):nQ ps ob (.d x)=some (.d x,[]):=rfl
theorem Va (ps:List Nat):nQ ps ob .nil=some (.nil,[]):=rfl
theorem VO (ps:List Nat) (id ver:Nat):nQ ps ob (.row id ver)=fe (oK ps id) (ob id) id ver:=by
 show uU ps ob (.row id ver)=_
 rw [YV]
theorem Vi (ps:List Nat) (cs:List A):nQ ps ob (.agg cs)=(wL ps ob cs).bind fun x=>some (.agg x.1,x.2):=by
 show (wL ps ob cs).map _=_
 cases wL ps ob cs <;> rfl
theorem K3 (ps:List Nat) (x:D):uU ps ob (.d x)=some (.d x,[]):=rfl
theorem Ql (ps:List Nat):uU ps ob .nil=some (.nil,[]):=rfl
theorem Q1 (ps:List Nat) (cs:List A):uU ps ob (.agg cs)=(wL ps ob cs).bind fun x=>some (.agg x.1,x.2):=by
 simp only [uU]; cases wL ps ob cs <;> rfl
theorem Sd (ps:List Nat):wL ps ob []=some ([],[]):=rfl
theorem Vw (ps:List Nat) (a:A) (r:List A):wL ps ob (a :: r)=(uU ps ob a).bind fun x=>(wL ps ob r).bind fun y=>some (x.1 :: y.1,x.2++y.2):=by
 simp only [wL]
 cases uU ps ob a with
 | none=>rfl
 | some p=>cases wL ps ob r <;> rfl
theorem VA (v:Nat) (cells:List A) (lk:Bool):mF ob ⟨v,.box cells,lk⟩=if v=1 then pd ob cells else none:=rfl
theorem MZ (x:D):li ob (.d x)=some (x,[]):=rfl
theorem Rj:li ob .nil=some (.nils,[]):=rfl
theorem Rs (id ver:Nat):li ob (.row id ver)=dZ (ob id) id ver:=rfl
theorem Uf:pd ob []=some ([],[]):=rfl
theorem XQ (a:A) (r:List A):pd ob (a :: r)=(li ob a).bind fun p=>(pd ob r).bind fun q=>some (p.1 :: q.1,p.2++q.2):=by
 simp only [pd]
 cases li ob a with
 | none=>rfl
 | some p=>obtain ⟨x,l⟩:=p; cases pd ob r <;> rfl
theorem Kj (k:IntKind) (n:Int):dA (.int k n)= .d (.int k n):=rfl
theorem Nt (b:Bool):dA (.bool b)= .d (.bool b):=rfl
theorem Ko (l:List UInt8):dA (sD l)= .d (sD l):=rfl
theorem IY (f:FuncId):dA (.fn f)= .d (.fn f):=rfl
theorem GN {α:Type} (c:Enc α) (l:List α):dA (zf c l)= .d (zf c l):=rfl
theorem M9:dA (.lst 0 [])= .d (.lst 0 []):=rfl
theorem Hi (n:Int):dA (iD n)= .d (.int .i64 n):=rfl
theorem MR:dA .nils= .nil:=rfl
theorem OX:dA .nilp= .d .nilp:=rfl
theorem N9:dA .nilf= .d .nilf:=rfl
theorem N3:dA .nili= .d .nili:=rfl
theorem PW (t:TypeId) (x:D):dA (.iface t x)= .d (.iface t x):=rfl
theorem TC (t:TypeId) (x:List D):dA (.ifaceS t x)= .d (.ifaceS t x):=rfl
theorem Rc:D.nils.flat=true:=rfl
theorem YY (ps:List Nat):vQ ob ps=(uW ob ps).bind fun y=>if y.2.any (fun m=>ps.any (· == m))=true then none else some y:=rfl
theorem XZ:uW ob []=some ([],[]):=rfl
theorem Yl (id:Nat) (r:List Nat):uW ob (id :: r)=(mF ob (ob id)).bind fun x=>(uW ob r).bind fun y=>some (x.1 :: y.1,x.2++y.2):=by
 simp only [uW]
 cases mF ob (ob id) with
 | none=>rfl
 | some p=>simp only [Option.bind_some]; cases uW ob r <;> rfl
theorem T1:rh ob []=true:=rfl
theorem VC (id:Nat) (k:KO) (r:List (Nat×KO)):rh ob ((id,k) :: r)=(my (ob id) k&&rh ob r):=rfl
theorem T8 (i:Nat):enter i []=([],[]):=rfl
theorem Vz (i:Nat) (x:X) (r:List X):enter i (x :: r)=((i,(ofX (fun _=>{}) i x 0).1) :: (enter (i+1) r).1,(ofX (fun _=>{}) i x 0).2.1++(enter (i+1) r).2):=rfl
def bc (ps keep:List Nat) (st:St) (m:List (Nat×Nat)):Option St:=
 if (yh (m.map (·.1))&&yh (m.map (·.2))&&m.all (fun p=>mZ m st.ob (st.ob p.1).o)&&ps.all (fun p=>te m p == some p&&(st.ob p).ver == 1))=true then
  some ⟨zo (keep.map fun n=>(n,sO m st.ob (st.slot n))),zw (m.map fun p=>(p.2,⟨1,oo m st.ob (st.ob p.1).o,(st.ob p.1).leak⟩))⟩ else none
@[congr] theorem Iy {ps keep:List Nat} {st:St} {m m':List (Nat×Nat)} (h:m=m'):bc ps keep st m=bc ps keep st m':=by rw [h]
theorem Ln (ps keep:List Nat):canon ps keep st=bc ps keep st (qU keep st):=rfl
theorem Sh (ps keep:List Nat) (m:List (Nat×Nat)):bc ps keep ⟨s,ob⟩ m=
 if (yh (m.map (·.1))&&yh (m.map (·.2))&&m.all (fun p=>mZ m ob (ob p.1).o)&&ps.all (fun p=>te m p == some p&&(ob p).ver == 1))=true then
  some ⟨zo (keep.map fun n=>(n,sO m ob (s n))),zw (m.map fun p=>(p.2,⟨1,oo m ob (ob p.1).o,(ob p.1).leak⟩))⟩ else none:=rfl
theorem Pc (keep:List Nat):qU keep ⟨s,ob⟩=jm [] (keep.flatMap fun n=>mL ob (oid n 0) (s n)):=rfl
def OI (ob:Nat→Ob) (x:Ob) (base id ver:Nat):List (Nat×Nat):=match x.o with
 | .box cells=>if x.ver=ver then (id,base) :: rK ob (base+1) cells else []
 | _=>[]
theorem Lr (base:Nat) (x:D):mL ob base (.d x)=[]:=rfl
theorem Qp (base:Nat):mL ob base .nil=[]:=rfl
theorem VP (base:Nat):mL ob base .undef=[]:=rfl
theorem MF (base:Nat) (cs:List D):mL ob base (.cp cs)=[]:=rfl
theorem PY (base id ver:Nat):mL ob base (.row id ver)=if (ob id).ver=ver then [(id,base)] else []:=rfl
theorem P4 (base id ver o:Nat):mL ob base (.rad id ver o)=[]:=rfl
theorem Qq (base:Nat) (cs:List A):mL ob base (.tup cs)=[]:=rfl
theorem Oj (base id ver o:Nat):mL ob base (.adr id ver o)=OI ob (ob id) base id ver:=rfl
theorem PM (base:Nat) (cs:List A):mL ob base (.agg cs)=rK ob (base+1) cs:=rfl
theorem TG (base id ver v:Nat) (cells:List A) (lk:Bool):OI ob ⟨v,.box cells,lk⟩ base id ver=if v=ver then (id,base) :: rK ob (base+1) cells else []:=rfl
theorem Z2 (base:Nat):rK ob base []=[]:=rfl
theorem Zu (base:Nat) (a:A) (r:List A):rK ob base (a :: r)=lq ob base a++rK ob (base+1) r:=rfl
theorem T7 (base:Nat) (x:D):lq ob base (.d x)=[]:=rfl
theorem X0 (base:Nat):lq ob base .nil=[]:=rfl
theorem XS (base id ver:Nat):lq ob base (.row id ver)=if (ob id).ver=ver then [(id,base)] else []:=rfl
theorem VG (acc:List (Nat×Nat)):jm acc []=acc:=rfl
theorem XP (acc:List (Nat×Nat)) (i j:Nat) (r:List (Nat×Nat)):jm acc ((i,j) :: r)=jm (if (acc.any (fun p=>p.1 == i))=true then acc else acc++[(i,j)]) r:=rfl
theorem Ta (n:Nat):te [] n=none:=rfl
theorem Vj (i j n:Nat) (r:List (Nat×Nat)):te ((i,j) :: r) n=if n=i then some j else te r n:=rfl
def UW (o:Option Nat):A:=match o with | some j=> .row j 1 | none=> .undef
def UZ (o:Option Nat) (off:Nat):A:=match o with | some j=> .adr j 1 off | none=> .undef
theorem P6 (j:Nat):UW (some j)= .row j 1:=rfl
theorem Pz (j off:Nat):UZ (some j) off= .adr j 1 off:=rfl
theorem Kd (m:List (Nat×Nat)) (x:D):sO m ob (.d x)= .d x:=rfl
theorem Pv (m:List (Nat×Nat)):sO m ob .nil= .nil:=rfl
theorem Vr (m:List (Nat×Nat)):sO m ob .undef= .undef:=rfl
theorem M5 (m:List (Nat×Nat)) (cs:List D):sO m ob (.cp cs)= .cp cs:=rfl
theorem Ph (m:List (Nat×Nat)) (id ver:Nat):sO m ob (.row id ver)=if (ob id).ver=ver then UW (te m id) else .undef:=rfl
theorem Qj (m:List (Nat×Nat)) (id ver off:Nat):sO m ob (.adr id ver off)=if (ob id).ver=ver then UZ (te m id) off else .undef:=rfl
theorem RU (m:List (Nat×Nat)) (id ver off:Nat):sO m ob (.rad id ver off)= .undef:=rfl
theorem P8 (m:List (Nat×Nat)) (cs:List A):sO m ob (.agg cs)= .agg (p7 m ob cs):=rfl
theorem Qo (m:List (Nat×Nat)) (cs:List A):sO m ob (.tup cs)= .tup (p7 m ob cs):=rfl
theorem Tl (m:List (Nat×Nat)):p7 m ob []=[]:=rfl
theorem UO (m:List (Nat×Nat)) (a:A) (r:List A):p7 m ob (a :: r)=sO m ob a :: p7 m ob r:=rfl
theorem Y3:yh []=true:=rfl
theorem bE (x:Nat) (r:List Nat):yh (x :: r)=(!(r.any (· == x))&&yh r):=rfl
theorem NR {α:Type} (f:α→Bool):List.any [] f=false:=rfl
theorem any_cons {α:Type} (f:α→Bool) (a:α) (l:List α):List.any (a :: l) f=(f a||List.any l f):=rfl
theorem Je {α β:Type} (f:α→List β):List.flatMap f []=[]:=rfl
theorem MB {α β:Type} (f:α→List β) (a:α) (l:List α):List.flatMap f (a :: l)=f a++List.flatMap f l:=by simp
theorem GU {α:Type} (a:α) (l:List α):(a :: l)[0]? =some a:=rfl
theorem GI {α:Type} (a:α) (l:List α) (n:Nat):(a :: l)[n+1]? =l[n]? :=rfl
theorem K5 {α:Type} (l:List α):l.drop 0=l:=rfl
theorem Jv {α:Type} (a:α) (l:List α) (n:Nat):(a :: l).drop (n+1)=l.drop n:=rfl
theorem O6 (f:FuncId) (live:List Nat) (d:Nat) (a:A) (u:Nat×Ob) (us:List (Nat×Ob)) (L:List SOper):yO E live (some d) (.call f) (some (.val a (u :: us))) L k st=gT E live L k { slot:=upd st.slot d a,ob:=zh st.ob (u :: us) }:=wG _ _ _ rfl _ _ _ _
theorem JZ (live:List Nat) (d:Nat) (a:A) (u:Nat×Ob) (us:List (Nat×Ob)) (L:List SOper):yO E live (some d) .dyn (some (.val a (u :: us))) L k st=gT E live L k { slot:=upd st.slot d a,ob:=zh st.ob (u :: us) }:=wG _ _ _ rfl _ _ _ _
theorem LF (live:List Nat) (d:Nat) (a:A) (u:Nat×Ob) (us:List (Nat×Ob)) (L:List SOper):yO E live (some d) .box (some (.val a (u :: us))) L k st=gT E live L k { slot:=upd st.slot d a,ob:=zh st.ob (u :: us) }:=wG _ _ _ rfl _ _ _ _
theorem Om (z:List A) (live:List Nat) (d:Nat) (a:A) (u:Nat×Ob) (us:List (Nat×Ob)) (L:List SOper):yO E live (some d) (.alloc z) (some (.val a (u :: us))) L k st=gT E live L k { slot:=upd st.slot d a,ob:=zh st.ob (u :: us) }:=wG _ _ _ rfl _ _ _ _
theorem Kk (e s l:Nat) (live:List Nat) (d:Nat) (a:A) (u:Nat×Ob) (us:List (Nat×Ob)) (L:List SOper):yO E live (some d) (lit e s l) (some (.val a (u :: us))) L k st=gT E live L k { slot:=upd st.slot d a,ob:=zh st.ob (u :: us) }:=wG _ _ _ rfl _ _ _ _
theorem IA (e s b:Nat) (z:List D) (live:List Nat) (d:Nat) (a:A) (u:Nat×Ob) (us:List (Nat×Ob)) (L:List SOper):yO E live (some d) (.mkS e s b z) (some (.val a (u :: us))) L k st=gT E live L k { slot:=upd st.slot d a,ob:=zh st.ob (u :: us) }:=wG _ _ _ rfl _ _ _ _
theorem JN (e s b:Nat) (live:List Nat) (d:Nat) (a:A) (u:Nat×Ob) (us:List (Nat×Ob)) (L:List SOper):yO E live (some d) (.app e s b) (some (.val a (u :: us))) L k st=gT E live L k { slot:=upd st.slot d a,ob:=zh st.ob (u :: us) }:=wG _ _ _ rfl _ _ _ _
theorem NA (e s b:Nat) (z:List D) (live:List Nat) (d:Nat) (a:A) (u:Nat×Ob) (us:List (Nat×Ob)) (L:List SOper):yO E live (some d) (.appZ e s b z) (some (.val a (u :: us))) L k st=gT E live L k { slot:=upd st.slot d a,ob:=zh st.ob (u :: us) }:=wG _ _ _ rfl _ _ _ _
theorem JE (s:Nat) (live:List Nat) (d:Nat) (a:A) (u:Nat×Ob) (us:List (Nat×Ob)) (L:List SOper):yO E live (some d) (.cut s) (some (.val a (u :: us))) L k st=gT E live L k { slot:=upd st.slot d a,ob:=zh st.ob (u :: us) }:=wG _ _ _ rfl _ _ _ _
theorem T4 (e s b:Nat) (z:List D):SOp.isSt (.appZ e s b z)=false:=rfl
theorem Qx (s:Nat):SOp.isSt (.cut s)=false:=rfl
theorem N0 (e s b:Nat) (z:List D):SOp.quiet (.appZ e s b z)=false:=rfl
theorem K6 (s:Nat):SOp.quiet (.cut s)=false:=rfl
theorem Hk (n:Nat) (live:List Nat) (d:Nat) (a:A) (u:Nat×Ob) (us:List (Nat×Ob)) (L:List SOper):yO E live (some d) (.st n) (some (.val a (u :: us))) L k st=gT E live L k { slot:=upd st.slot d a,ob:=zh st.ob (u :: us) }:=wG _ _ _ rfl _ _ _ _
theorem Ib (n:Nat) (live:List Nat) (a:A) (us:List (Nat×Ob)) (L:List SOper):yO E live none (.st n) (some (.val a us)) L k st=gT E live L k { slot:=st.slot,ob:=zh st.ob us }:=cV _ _ rfl _ _ _
theorem U3 (f:FuncId):SOp.isSt (.call f)=false:=rfl
theorem Pw:SOp.isSt .dyn=false:=rfl
theorem RM:SOp.isSt .box=false:=rfl
theorem Ud (z:List A):SOp.isSt (.alloc z)=false:=rfl
theorem Pt (e s l:Nat):SOp.isSt (lit e s l)=false:=rfl
theorem PD (e s b:Nat) (z:List D):SOp.isSt (.mkS e s b z)=false:=rfl
theorem RH (e s b:Nat):SOp.isSt (.app e s b)=false:=rfl
theorem NT (n:Nat):SOp.isSt (.st n)=true:=rfl
theorem PE (i v:Nat):we (.row i v)=[i]:=rfl
theorem QD (i v o:Nat):we (.adr i v o)=[i]:=rfl
theorem Ov (i v o:Nat):we (.rad i v o)=[i]:=rfl
theorem It (x:D):we (.d x)=[]:=rfl
theorem RG:we .nil=[]:=rfl
theorem UD:we .undef=[]:=rfl
theorem M8 (x:List D):we (.cp x)=[]:=rfl
theorem P3 (cs:List A):we (.agg cs)=cs.flatMap rE:=rfl
theorem Pk (cs:List A):we (.tup cs)=cs.flatMap rE:=rfl
theorem Re (i v:Nat):rE (.row i v)=[i]:=rfl
theorem Rk (i v o:Nat):rE (.adr i v o)=[i]:=rfl
theorem Ll (x:D):rE (.d x)=[]:=rfl
theorem TV:rE .nil=[]:=rfl
theorem XB (op:SOp):ux op ob []=[]:=rfl
theorem YQ (op:SOp) (i:Nat) (x:Ob) (r:List (Nat×Ob)):ux op ob ((i,x) :: r)=if (!op.isSt&&x.leak&&x.ver == (ob i).ver)=true then ux op ob r else i :: ux op ob r:=rfl
end
section
variable {Γ:Ctx} {ob:Nat→Ob} {d:Nat}
theorem HH (id ver off:Nat):eval Γ ob d (.ld none) [.adr id ver off]=(mP (ob id) ver).bind fun cells=>(cells[off]?).bind fun a=>some (.val a []):=rfl
theorem JO (n id ver off:Nat):eval Γ ob d (.ld (some n)) [.adr id ver off]=(mP (ob id) ver).bind fun cells=>if off+n ≤ cells.length then some (.val (.agg ((cells.drop off).take n)) []) else none:=rfl
theorem HK (off id ver o:Nat):eval Γ ob d (.fa off) [.adr id ver o]=(mP (ob id) ver).bind fun _=>some (.val (.adr id ver (o+off)) []):=rfl
theorem I6 (n id ver off:Nat) (a:A):eval Γ ob d (.st n) [.adr id ver off,a]=(mP (ob id) ver).bind fun cells=>
   if off+n ≤ cells.length∧(cellsOf a).length=n∧(cellsOf a).all one=true then
    some (.val .undef [(id,⟨(ob id).ver,.box (cells.take off++cellsOf a++cells.drop (off+n)),(ob id).leak⟩)]) else none:=rfl
theorem Qf (id ver off:Nat):eval Γ ob d .nilck [.adr id ver off]=(mP (ob id) ver).bind fun _=>some (.val (.adr id ver off) []):=rfl
theorem KZ (a:A):eval Γ ob d .box [a]=if (cellsOf a).all one=true then some (.val (.adr (oid d 0) ((ob (oid d 0)).ver+1) 0) [(oid d 0,⟨(ob (oid d 0)).ver+1,.box (cellsOf a),false⟩)]) else none:=rfl
theorem RI (cells:List A):eval Γ ob d (.alloc cells) []=if cells.all one=true then some (.val (.adr (oid d 0) ((ob (oid d 0)).ver+1) 0) [(oid d 0,⟨(ob (oid d 0)).ver+1,.box cells,false⟩)]) else none:=rfl
theorem IE (zero:List A) (parts:List (Nat×Nat)) (as:List A):eval Γ ob d (.bld zero parts) as=(m7 zero parts as).bind fun cs=>some (.val (.agg cs) []):=rfl
theorem Ig (off:Nat) (cs:List A):eval Γ ob d (.fld off none) [.agg cs]=(cs[off]?).bind fun a=>some (.val a []):=rfl
theorem NU (off n:Nat) (cs:List A):eval Γ ob d (.fld off (some n)) [.agg cs]=if off+n ≤ cs.length then some (.val (.agg ((cs.drop off).take n)) []) else none:=rfl
theorem JT (i:Nat) (cs:List A):eval Γ ob d (.ext i) [.tup cs]=(cs[i]?).bind fun a=>some (.val a []):=rfl
theorem Iw (k k':IntKind) (n:Int):eval Γ ob d (.cvt k) [.d (.int k' n)]=some (.val (.d (.int k (k.wrap n))) []):=rfl
theorem I2 (max:Bool) (k:IntKind) (a b:Int):eval Γ ob d (.mm max) [.d (.int k a),.d (.int k b)]=some (.val (.d (.int k (if max=true then (if a < b then b else a) else (if b < a then b else a)))) []):=by simp [eval,ok]
theorem J0 (k:IntKind) (a b:Int):eval Γ ob d (.bin .quo) [.d (.int k a),.d (.int k b)]=if b=0 then none else some (.val (.d (.int k (k.wrap (a.tdiv b)))) []):=by
 simp only [eval,vg,ui,ok,if_true]; split <;> rfl
theorem LO (k:IntKind) (a b:Int):eval Γ ob d (.bin .rem) [.d (.int k a),.d (.int k b)]=if b=0 then none else some (.val (.d (.int k (a.tmod b))) []):=by
 simp only [eval,vg,ui,ok,if_true]; split <;> rfl
theorem Mj (t:Nat) (x:D):eval Γ ob d .pan [.d (.iface t x)]=some (.pan (.iface t x) []):=rfl
theorem MA (t:Nat) (xs:List D):eval Γ ob d .pan [.d (.ifaceS t xs)]=some (.pan (.ifaceS t xs) []):=rfl
theorem Iq (f:FuncId):eval Γ ob d (.mkF f) []=some (.val (.d (.fn f)) []):=rfl
theorem KB (t:TypeId) (x:D):eval Γ ob d (.mkI t) [.d x]=some (.val (.d (.iface t x)) []):=rfl
theorem O0 (t:TypeId) (cs:List A):eval Γ ob d (.mkI t) [.agg cs]=(yH ob cs).bind fun p=>some (.val (.d (.ifaceS t p.1)) (zt ob p.2)):=rfl
theorem Nc (e size len:Nat) (parts:List (Nat×Nat)) (as:List A):eval Γ ob d (.bldS e size len parts) as=
  if parts=(List.range len).map (fun i=>(i * size,size))∧as.length=len∧(as.all fun a=>decide ((cellsOf a).length=size))=true then
   (yH ob (as.flatMap cellsOf)).bind fun p=>some (.val (.row (oid d 0) ((ob (oid d 0)).ver+1)) (zt ob p.2++[(oid d 0,⟨(ob (oid d 0)).ver+1,.row e size len (some len) p.1,false⟩)])) else none:=by
 simp only [eval]; rfl
def dS (e size len:Nat) (xs:List D):O:= .row e size len (some len) xs
def WQ (e size n:Nat) (cap:Nat) (zero:List D):O:= .row e size n (some cap) (List.replicate n zero).flatten
theorem KP (e size len:Nat) (as:List A):eval Γ ob d (lit e size len) as=
  if as.length=len∧(as.all fun a=>decide ((cellsOf a).length=size))=true then
   (yH ob (as.flatMap cellsOf)).bind fun p=>some (.val (.row (oid d 0) ((ob (oid d 0)).ver+1)) (zt ob p.2++[(oid d 0,⟨(ob (oid d 0)).ver+1,dS e size len p.1,false⟩)])) else none:=by
 unfold lit dS
 rw [Nc]
 by_cases h:as.length=len∧(as.all fun a=>decide ((cellsOf a).length=size))=true
 ·rw [if_pos h,if_pos ⟨rfl,h.1,h.2⟩]
 ·rw [if_neg h,if_neg (fun q=>h q.2)]
def mN (bytes:Nat) (l c:Int):Prop:=0 ≤ l∧l ≤ c∧(bytes:Int) * c ≤ uQ∧c ≤ 9223372036854775807
instance (b:Nat) (l c:Int):Decidable (mN b l c):=by unfold mN; infer_instance
theorem Jl (e size bytes:Nat) (zero:List D) (k k':IntKind) (l c:Int):eval Γ ob d (.mkS e size bytes zero) [.d (.int k l),.d (.int k' c)]=
  if mN bytes l c then if zero.length=size∧0 < size then
   some (.val (.row (oid d 0) ((ob (oid d 0)).ver+1)) [(oid d 0,⟨(ob (oid d 0)).ver+1,WQ e size l.toNat c.toNat zero,false⟩)]) else none else none:=by
 by_cases h:mN bytes l c
 ·rw [if_pos h]
  by_cases h':zero.length=size∧0 < size
  ·rw [if_pos h']
   exact if_pos ⟨h.1,h.2.1,h.2.2.1,h.2.2.2,h'.1,h'.2⟩
  ·rw [if_neg h']
   exact if_neg (fun q=>h' ⟨q.2.2.2.2.1,q.2.2.2.2.2⟩)
 ·rw [if_neg h]
  exact if_neg (fun q=>h ⟨q.1,q.2.1,q.2.2.1,q.2.2.2.1⟩)
theorem NC (a b:List UInt8):eval Γ ob d (.bin .add) [.d (sD a),.d (sD b)]=if ZO (a++b).length then some (.val (.d (sD (a++b))) []) else none:=by
 simp only [eval,vg,mt,sD,ZO,List.length_append]
 have h1:(ByteArray.mk a.toArray).size=a.length:=rfl
 have h2:(ByteArray.mk b.toArray).size=b.length:=rfl
 rw [h1,h2]
 split
 ·simp only [Option.bind_some,ok]
  congr 5
 ·rfl
theorem MD (a b:List UInt8):eval Γ ob d (.bin .eql) [.d (sD a),.d (sD b)]=some (.val (.d (.bool (decide (a=b)))) []):=by
 simp only [eval,vg,mt,sD,jQ,Option.bind_some,ok]
 congr 4
 exact (Bool.beq_eq_decide_eq a b)
theorem Lm (a b:List UInt8):eval Γ ob d (.bin .neq) [.d (sD a),.d (sD b)]=some (.val (.d (.bool (!decide (a=b)))) []):=by
 simp only [eval,vg,mt,sD,jQ,Option.bind_some,ok]
 congr 5
 exact (Bool.beq_eq_decide_eq a b)
def ZR (a b:List UInt8):Bool:=Op.bytesLess a b
theorem NM (a b:List UInt8):eval Γ ob d (.bin .lss) [.d (sD a),.d (sD b)]=some (.val (.d (.bool (ZR a b))) []):=by
 simp only [eval,vg,mt,sD,jQ,Option.bind_some,ok,ZR]
theorem ME (a b:List UInt8):eval Γ ob d (.bin .geq) [.d (sD a),.d (sD b)]=some (.val (.d (.bool (!ZR a b))) []):=by
 simp only [eval,vg,mt,sD,jQ,Option.bind_some,ok,ZR]
theorem TU (z:List A):m7 z [] []=some z:=rfl
theorem VD (z:List A) (off size:Nat) (ps:List (Nat×Nat)) (a:A) (r:List A):m7 z ((off,size) :: ps) (a :: r)=
  if (cellsOf a).length=size∧off+size ≤ z.length∧(cellsOf a).all one=true then m7 (z.take off++cellsOf a++z.drop (off+size)) ps r else none:=rfl
theorem X6 (i v:Nat):cellsOf (.row i v)=[.row i v]:=rfl
theorem X5:cellsOf .nil=[.nil]:=rfl
theorem Wc (i v o:Nat):cellsOf (.adr i v o)=[.adr i v o]:=rfl
theorem K4 (xs:List D):eval Γ ob d (.fa 0) [.cp xs]=some (.val (.cp xs) []):=by simp [eval,mT,ok]
theorem Kc (a:D) (xs:List D):eval Γ ob d (.fa 1) [.cp (a :: xs)]=some (.val (.cp xs) []):=by simp [eval,mT,ok]
theorem KT (a b:D) (xs:List D):eval Γ ob d (.fa 2) [.cp (a :: b :: xs)]=some (.val (.cp xs) []):=by simp [eval,mT,ok]
theorem Kq (a b c:D) (xs:List D):eval Γ ob d (.fa 3) [.cp (a :: b :: c :: xs)]=some (.val (.cp xs) []):=by simp [eval,mT,ok]
theorem JC (a b c e:D) (xs:List D):eval Γ ob d (.fa 4) [.cp (a :: b :: c :: e :: xs)]=some (.val (.cp xs) []):=by simp [eval,mT,ok]
theorem MO (a:D) (xs:List D):eval Γ ob d (.ld (some 1)) [.cp (a :: xs)]=some (.val (.agg [.d a]) []):=by simp [eval,pQ,ok]
theorem O2 (a b:D) (xs:List D):eval Γ ob d (.ld (some 2)) [.cp (a :: b :: xs)]=some (.val (.agg [.d a,.d b]) []):=by simp [eval,pQ,ok]
theorem Mc (a b c:D) (xs:List D):eval Γ ob d (.ld (some 3)) [.cp (a :: b :: c :: xs)]=some (.val (.agg [.d a,.d b,.d c]) []):=by simp [eval,pQ,ok]
theorem M7 (a b c e:D) (xs:List D):eval Γ ob d (.ld (some 4)) [.cp (a :: b :: c :: e :: xs)]=some (.val (.agg [.d a,.d b,.d c,.d e]) []):=by simp [eval,pQ,ok]
theorem Id (a b c e f:D) (xs:List D):eval Γ ob d (.fa 5) [.cp (a :: b :: c :: e :: f :: xs)]=some (.val (.cp xs) []):=by simp [eval,mT,ok]
theorem NV (a b c e f:D) (xs:List D):eval Γ ob d (.ld (some 5)) [.cp (a :: b :: c :: e :: f :: xs)]=some (.val (.agg [.d a,.d b,.d c,.d e,.d f]) []):=by simp [eval,pQ,ok]
theorem Mi (a b c e f g:D) (xs:List D):eval Γ ob d (.ld (some 6)) [.cp (a :: b :: c :: e :: f :: g :: xs)]=some (.val (.agg [.d a,.d b,.d c,.d e,.d f,.d g]) []):=by simp [eval,pQ,ok]
theorem Tf (neg:Bool):eval Γ ob d (.inil neg) [.d .nili]=some (.val (.d (.bool !neg)) []):=rfl
theorem Tv (neg:Bool) (t:TypeId) (x:D):eval Γ ob d (.inil neg) [.d (.iface t x)]=some (.val (.d (.bool neg)) []):=rfl
theorem S7 (neg:Bool) (t:TypeId) (xs:List D):eval Γ ob d (.inil neg) [.d (.ifaceS t xs)]=some (.val (.d (.bool neg)) []):=rfl
theorem Jk (t u:TypeId) (x:D):eval Γ ob d (.ta t) [.d (.iface u x)]=if u=t then some (.val (.tup [.d x,.d (.bool true)]) []) else none:=rfl
theorem JD (t u:TypeId) (xs:List D):eval Γ ob d (.ta t) [.d (.ifaceS u xs)]=if u=t then some (.val (.tup [.agg (xs.map .d),.d (.bool true)]) []) else none:=rfl
theorem KD (n size id ver o:Nat) (k:IntKind) (i:Int):eval Γ ob d (.iaa n size) [.adr id ver o,.d (.int k i)]=
  (mP (ob id) ver).bind fun _=>if 0 ≤ i∧i < (n:Int) then some (.val (.adr id ver (o+i.toNat * size)) []) else none:=rfl
theorem LY (n size:Nat) (cs:List A) (k:IntKind) (i:Int):eval Γ ob d (.ixa n size none) [.agg cs,.d (.int k i)]=
  if 0 ≤ i∧i < (n:Int) then (cs[i.toNat * size]?).bind fun a=>some (.val a []) else none:=rfl
def tab {α:Type}:List α→Nat→Nat→Option α
 | [],_,_=>none
 | a :: l,n,j=>if n=j then some a else tab l n (j+1)
theorem MW {α:Type} (n j:Nat):tab ([]:List α) n j=none:=rfl
theorem QJ {α:Type} (a:α) (l:List α) (n j:Nat):tab (a :: l) n j=if n=j then some a else tab l n (j+1):=rfl
theorem bM {α:Type}:∀ (l:List α) (n j:Nat),tab l (n+j) j=l[n]?
 | [],n,j=>by simp [tab]
 | a :: l,0,j=>by simp [tab]
 | a :: l,n+1,j=>by
   simp only [tab,List.getElem?_cons_succ]
   rw [if_neg (by omega),← bM l n (j+1)]
   congr 1; omega
theorem Jx {α:Type} (a:α) (l:List α) (i:Int) (s:Nat):(a :: l)[i.toNat * s]? =tab (a :: l) (i.toNat * s) 0:=(bM (a :: l) (i.toNat * s) 0).symm
theorem NZ {α:Type} (a:α) (l:List α) (i:Int):(a :: l)[i.toNat]? =tab (a :: l) i.toNat 0:=(bM (a :: l) i.toNat 0).symm
theorem Mo {E:En} {k:List KJ} {st:St} (b:Cd) (id ver off:Nat):gFz E b k st (.adr id ver off)=(mP (st.ob id) ver).bind fun cells=>(yH st.ob cells).bind fun p=>
  G E b k { slot:=st.slot,ob:=zh st.ob (zt st.ob p.2++[(id,⟨(st.ob id).ver,.box (p.1.map dA),(st.ob id).leak⟩)]) }:=rfl
def dD (a:A) (p:Prop) [Decidable p] (q:IntKind) (x:Int):A:=match a with
 | .d (.int q' y)=>if q'=q then .d (.int q (if p then x else y)) else if p then .d (.int q x) else a
 | _=>if p then .d (.int q x) else a
theorem bq (a:A) (p:Prop) [Decidable p] (q:IntKind) (x:Int):dD a p q x=if p then .d (.int q x) else a:=by
 unfold dD
 split
 ·split
  ·rename_i e; subst e; split <;> rfl
  ·rfl
 ·rfl
theorem Yd (y:Int) (p:Prop) [Decidable p] (q:IntKind) (x:Int):dD (.d (.int q y)) p q x= .d (.int q (if p then x else y)):=by
 unfold dD; simp
theorem FI (y:Int) (p:Prop) [Decidable p] (x:Int):dD (.d (iD y)) p .i64 x= .d (.int .i64 (if p then x else y)):=Yd y p .i64 x
theorem Hc (n:Int):A.d (iD n)= .d (.int .i64 n):=rfl
def dx:List A→Nat→Nat→IntKind→Int→List A
 | [],_,_,_,_=>[]
 | a :: l,k,j,q,x=>dD a (j=k) q x :: dx l (k+1) j q x
theorem Qe (k j:Nat) (q:IntKind) (x:Int):dx [] k j q x=[]:=rfl
theorem kE (a:A) (l:List A) (k j:Nat) (q:IntKind) (x:Int):dx (a :: l) k j q x=dD a (j=k) q x :: dx l (k+1) j q x:=rfl
theorem Za:∀ (l:List A) (k j:Nat) (q:IntKind) (x:Int),j < k→dx l k j q x=l
 | [],_,_,_,_,_=>rfl
 | a :: l,k,j,q,x,h=>by rw [kE,bq,if_neg (by omega),Za l (k+1) j q x (by omega)]
theorem Wm:∀ (l:List A) (k j:Nat) (q:IntKind) (x:Int),j < l.length→dx l k (k+j) q x=l.take j++[.d (.int q x)]++l.drop (j+1)
 | [],k,j,q,x,h=>by simp at h
 | a :: l,k,0,q,x,h=>by rw [kE,bq,if_pos (by omega),Za l (k+1) (k+0) q x (by omega)]; simp
 | a :: l,k,j+1,q,x,h=>by
   rw [kE,bq,if_neg (by omega),show k+(j+1)=k+1+j by omega,Wm l (k+1) j q x (by simpa using h)]
   simp
theorem J9 (i:Int) (s id v:Nat) (q:IntKind) (x:Int) (lk:Bool) (cells:List A):
  (if i.toNat * s+1 ≤ cells.length∧(cellsOf (.d (.int q x))).length=1∧(cellsOf (.d (.int q x))).all one=true then
    some (Out.val .undef [(id,⟨v,.box (cells.take (i.toNat * s)++cellsOf (.d (.int q x))++cells.drop (i.toNat * s+1)),lk⟩)]) else none)
  =if i.toNat * s < cells.length then some (Out.val .undef [(id,⟨v,.box (dx cells 0 (i.toNat * s) q x),lk⟩)]) else none:=by
 have e1:(cellsOf (.d (.int q x))).length=1∧(cellsOf (.d (.int q x))).all one=true:=⟨rfl,rfl⟩
 by_cases h:i.toNat * s < cells.length
 ·rw [if_pos ⟨by omega,e1⟩,if_pos h]
  have:=Wm cells 0 (i.toNat * s) q x h
  rw [Nat.zero_add] at this
  rw [this]; rfl
 ·rw [if_neg (fun p=>by omega),if_neg h]
def stB (x:Option (List D×List Nat)):O:=match x with
 | some (xs,_)=> .box (xs.map dA)
 | none=> .dead
@[congr] theorem HY {x x':Option (List D×List Nat)} (h:x=x'):stB x=stB x':=by rw [h]
theorem QV (xs:List D) (l:List Nat):stB (some (xs,l))= .box (xs.map dA):=rfl
theorem VS (cells:List A):rM ob (.box cells)=stB (yH ob cells):=by
 simp only [rM]
 cases yH ob cells <;> rfl
theorem PK {α:Type} (c:Enc α) (e:Nat) (cap:Option Nat) (l:List α):rM ob (zW c e cap l)= .dead:=rfl
theorem UR:gD [] ob=[]:=rfl
theorem XG (id:Nat) (r:List Nat):gD (id :: r) ob=(id,⟨(ob id).ver,rM ob (ob id).o,false⟩) :: gD r ob:=rfl
@[congr] theorem Hw {E:En} {ids da:List Nat} {x:D} {st st':St} (h:st=st'):Yx E ids da x st=Yx E ids da x st':=by rw [h]
@[congr] theorem GJ {E:En} {b:Cd} {st st':St} (h:st=st'):gB E b st=gB E b st':=by rw [h]
end
end Go.Vm
