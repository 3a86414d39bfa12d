/- The rules by which a call is rewritten into a plain Lean function, bundled. -/
import Derived.Test.YtpjfklhaogdfeaaGreatDoorVmObj
set_option linter.unusedSectionVars false
set_option linter.unusedSimpArgs false
set_option linter.unusedVariables false
namespace Go.Vm
def gS (E:En) (k:List KJ) (st:St):Option XOut:=zM E k (.normal,st)
def gE (E:En) (k:List KJ) (e:Ex) (st:St):Option XOut:=zM E k (e,st)
@[congr] theorem Jh {E:En} {k:List KJ} {st st':St} (h:st=st'):gS E k st=gS E k st':=by rw [h]
@[congr] theorem KQ {α:Type} {c c':Option Bool} {x y:Option α} (h:c=c'):gIf c x y=gIf c' x y:=by rw [h]
@[congr] theorem KB {E:En} {d:Option Nat} {x x':Option Out} {l:List SOper} {k:List KJ} {st:St} (h:x=x'):wu E d x l k st=wu E d x' l k st:=by rw [h]
@[congr] theorem LE {E:En} {v:List Nat} {d:Option Nat} {op:SOp} {x x':Option Out} {l:List SOper} {k:List KJ} {st:St} (h:x=x'):
   yi E v d op x l k st=yi E v d op x' l k st:=by rw [h]
@[congr] theorem JO {E:En} {keep:List Nat} {b:Cd} {m:Nat} {k:List KJ} {x x':Option St} (h:x=x'):gC E keep b m k x=gC E keep b m k x':=by rw [h]
def sel {α:Type} (c:Bool) (x y:α):α:=match c with
 | true=>x
 | false=>y
@[congr] theorem KP {α:Type} {c c':Bool} {x y:α} (h:c=c'):sel c x y=sel c' x y:=by rw [h]
theorem IC {α:Type} (x y:α):sel true x y=x:=rfl
theorem Iw {α:Type} (x y:α):sel false x y=y:=rfl
theorem Zx {α:Type} (f:Nat→α) (n m:Nat) (v:α):upd f n v m=sel (m == n) v (f m):=by
 unfold upd sel
 by_cases h:m=n
 ·subst h; simp
 ·rw [if_neg h]
  have:(m == n)=false:=by simpa using h
  rw [this]
theorem K0 (i:Nat) (a:A) (r:List (Nat×A)) (n:Nat):zj ((i,a) :: r) n=sel (n == i) a (zj r n):=Zx (zj r) i n a
theorem Ig (i:Nat) (o:Ob) (r:List (Nat×Ob)) (n:Nat):zt ((i,o) :: r) n=sel (n == i) o (zt r n):=Zx (zt r) i n o
@[congr] theorem Kf {Γ:Ctx} {ob:Nat→Ob} {d:Nat} {op:SOp} {as as':List A} (h:as=as'):eval Γ ob d op as=eval Γ ob d op as':=by rw [h]
section
variable {E:En} {k:List KJ} {st:St} {s:Nat→A} {ob:Nat→Ob}
theorem RA (l:List (Nat×A)) (ob:Nat→Ob):gS E k ⟨zj l,ob⟩=zM E k (.normal,⟨zj l,ob⟩):=rfl
theorem Jv (live:List Nat):zM E (.v live :: k) (.normal,st)=gS E k ⟨zj (live.map fun n=>(n,st.slot n)),st.ob⟩:=rfl
theorem Lg (live:List Nat):md E live k (.normal,st)=zM E (.v live :: k) (.normal,st):=rfl
theorem Qo (live:List Nat) (x:D):md E live k (.panic x,st)=zM E k (.panic x,st.forget E.ps):=rfl
theorem QT (keep:List Nat) (b:Cd) (m:Nat):gL E keep b m k st=gC E keep b m k (canon E.ps keep st):=LK keep b m
theorem Rt {α:Type} (b:Bool) (x y:Option α):gIf (some b) x y=if b=true then x else y:=by cases b <;> rfl
theorem Rm {α:Type} (x y:Option α):gIf (some true) x y=x:=rfl
theorem Rh {α:Type} (x y:Option α):gIf (some false) x y=y:=rfl
theorem zw {α β:Type} (p:Prop) [Decidable p] (x y:Option α) (f:α→Option β):(if p then x else y).bind f=if p then x.bind f else y.bind f:=by split <;> rfl
theorem ID (b:Bool):(b=true)=(b=true):=rfl
def dR (fl:TypeId→Bool) (ob:Nat→Ob) (d:Nat) (ls ms:List Nat) (x:Option XOut):Option Out:=x.bind fun
    | .ret x outs=>(yG ob ms outs).map fun bs=> .val (yB (za ob bs) ms x (ofX (za ob bs) d x 0).1) ((if yq fl x&&outs.all sv then [] else zl ob ls)++(bs++(ofX (za ob bs) d x 0).2.1))
    | .pan x outs=>(yG ob ms outs).map fun bs=> .pan x (zl ob ls++bs)
def ff (c:Bool) (ob:Nat→Ob) (ls:List Nat):List (Nat×Ob):=if c=true then [] else zl ob ls
@[congr] theorem Kt {c c':Bool} {ob:Nat→Ob} {ls:List Nat} (h:c=c'):ff c ob ls=ff c' ob ls:=by rw [h]
theorem WP (ob:Nat→Ob) (ls:List Nat):ff true ob ls=[]:=rfl
theorem Xu (c:Bool) (ob:Nat→Ob):ff c ob []=[]:=by cases c <;> rfl
theorem XU (ob:Nat→Ob) (ls:List Nat):ff false ob ls=zl ob ls:=rfl
theorem PX (fl:TypeId→Bool) (x:D):yq fl (.d x)=x.flat:=by simp only [yq]
theorem WW (fl:TypeId→Bool):yq fl .nil=true:=by simp only [yq]
theorem Vk (fl:TypeId→Bool) (xs:List X):yq fl (.agg xs)=vF fl xs:=by simp only [yq]
theorem XB (fl:TypeId→Bool) (xs:List X):yq fl (.tup xs)=vF fl xs:=by simp only [yq]
theorem Wc (fl:TypeId→Bool) (xs:List X):yq fl (.box xs)=vF fl xs:=by simp only [yq]
theorem Xn (fl:TypeId→Bool):vF fl []=true:=by simp only [vF]
theorem aQ (fl:TypeId→Bool) (x:X) (xs:List X):vF fl (x :: xs)=(yq fl x&&vF fl xs):=by simp only [vF]
theorem Tk (k:IntKind) (n:Int):(D.int k n).flat=true:=rfl
theorem VI (b:Bool):(D.bool b).flat=true:=rfl
theorem UX (l:List UInt8):(sD l).flat=true:=rfl
theorem Pj (f:FuncId):(D.fn f).flat=true:=rfl
theorem WB:D.nilp.flat=true:=rfl
theorem VZ:D.nilf.flat=true:=rfl
theorem Xv:D.nili.flat=true:=rfl
theorem YG (t:TypeId) (x:D):(D.iface t x).flat=false:=rfl
theorem aT (t:TypeId) (x:List D):(D.ifaceS t x).flat=false:=rfl
theorem We:(D.lst 0 []).flat=false:=rfl
theorem N1 {α:Type} (c:Enc α) (l:List α):(zh c l).flat=false:=rfl
theorem YY (ds:List D):sv ds=ds.all D.flat:=rfl
def dC (Γ:Ctx) (ob:Nat→Ob) (d:Nat) (f:FuncId) (x:Option (List X×List Nat×List Nat)):Option Out:=x.bind fun p=>
 if zF p.2.2&&!(p.2.2.any fun m=>p.2.1.any (· == m)) then dR Γ.fl ob d p.2.1 p.2.2 (Γ f p.1) else none
@[congr] theorem J5 {fl:TypeId→Bool} {ob:Nat→Ob} {d:Nat} {ls ms:List Nat} {x x':Option XOut} (h:x=x'):dR fl ob d ls ms x=dR fl ob d ls ms x':=by rw [h]
@[congr] theorem J3 {Γ:Ctx} {ob:Nat→Ob} {d:Nat} {f:FuncId} {x x':Option (List X×List Nat×List Nat)} (h:x=x'):dC Γ ob d f x=dC Γ ob d f x':=by rw [h]
theorem an (Γ:Ctx) (ob:Nat→Ob) (d:Nat) (as:List A):eval Γ ob d .dyn (.d .nilf :: as)=none:=rfl
theorem Uv (Γ:Ctx) (ob:Nat→Ob) (d:Nat) (f:FuncId) (as:List A):eval Γ ob d (.call f) as=dC Γ ob d f (wq (Γ.mu f) ob as):=rfl
theorem QK (Γ:Ctx) (ob:Nat→Ob) (d:Nat) (f:FuncId) (as:List A):eval Γ ob d .dyn (.d (.fn f) :: as)=dC Γ ob d f (wq (Γ.mu f) ob as):=rfl
theorem RI (Γ:Ctx) (ob:Nat→Ob) (d:Nat) (f:FuncId) (xs:List X) (ls ms:List Nat):dC Γ ob d f (some (xs,ls,ms))=
  if (zF ms&&!(ms.any fun m=>ls.any (· == m)))=true then dR Γ.fl ob d ls ms (Γ f xs) else none:=rfl
theorem PG {α:Type} (fl:TypeId→Bool) (ob:Nat→Ob) (d:Nat) (ls ms:List Nat) (x:Option α) (f:α→Option XOut):dR fl ob d ls ms (x.bind f)=x.bind fun y=>dR fl ob d ls ms (f y):=by
 unfold dR; rw [Option.bind_assoc]
theorem OZ (fl:TypeId→Bool) (ob:Nat→Ob) (d:Nat) (ls ms:List Nat) (x:X) (outs:List (List D)):dR fl ob d ls ms (some (.ret x outs))=
  (yG ob ms outs).bind fun bs=>some (.val (yB (za ob bs) ms x (ofX (za ob bs) d x 0).1) (ff (yq fl x&&outs.all sv) ob ls++(bs++(ofX (za ob bs) d x 0).2.1))):=by
 simp only [dR,Option.bind_some]; cases yG ob ms outs <;> rfl
theorem MR (fl:TypeId→Bool) (ob:Nat→Ob) (d:Nat) (ls ms:List Nat) (x:D) (outs:List (List D)):dR fl ob d ls ms (some (.pan x outs))=
  (yG ob ms outs).bind fun bs=>some (.pan x (zl ob ls++bs)):=by
 simp only [dR,Option.bind_some]; cases yG ob ms outs <;> rfl
theorem P3 (fl:TypeId→Bool) (ob:Nat→Ob) (d:Nat) (ls ms:List Nat):dR fl ob d ls ms none=none:=rfl
theorem X9 (ob:Nat→Ob):yG ob [] []=some []:=rfl
theorem Yt (ob:Nat→Ob) (id:Nat) (r:List Nat) (ds:List D) (xs:List (List D)):yG ob (id :: r) (ds :: xs)=
  (ro (ob id) ds).bind fun x=>(yG ob r xs).bind fun y=>some ((id,x) :: y):=by
 simp only [yG]
 cases ro (ob id) ds with
 | none=>rfl
 | some x=>cases yG ob r xs <;> rfl
theorem Vo (v:Nat) (cells:List A) (lk:Bool) (ds:List D):ro ⟨v,.box cells,lk⟩ ds=some ⟨v,.box (ds.map dA),false⟩:=rfl
theorem VL (ob:Nat→Ob):zl ob []=[]:=rfl
theorem Yc (ob:Nat→Ob) (i:Nat) (r:List Nat):zl ob (i :: r)=(i,⟨(ob i).ver,(ob i).o,true⟩) :: zl ob r:=rfl
theorem LH (m:Bool) (x:D):toX m ob (.d x)=some (.d x,[],[]):=rfl
theorem Ti:toX false ob .nil=some (.d (.lst 0 []),[],[]):=rfl
theorem Un:toX true ob .nil=some (.nil,[],[]):=rfl
theorem P6 (m:Bool) (cs:List A):toX m ob (.agg cs)=(wq m ob cs).bind fun p=>some (.agg p.1,p.2.1,p.2.2):=by
 simp only [toX]; cases wq m ob cs <;> rfl
theorem V5 (m:Bool):wq m ob []=some ([],[],[]):=rfl
theorem XQ (m:Bool) (a:A) (r:List A):wq m ob (a :: r)=(toX m ob a).bind fun p=>(wq m ob r).bind fun q=>some (p.1 :: q.1,p.2.1++q.2.1,p.2.2++q.2.2):=by
 simp only [wq]
 cases toX m ob a with
 | none=>rfl
 | some p=>obtain ⟨x,l,k⟩:=p; cases wq m ob r <;> rfl
theorem cv:xE []=some []:=rfl
theorem Yw (x:D) (r:List A):xE (.d x :: r)=(xE r).bind fun y=>some (x :: y):=by
 simp only [xE]; cases xE r <;> rfl
theorem MB (x:D):yC ob (.d x)=some (x,[]):=rfl
theorem Tb:yC ob .nil=some (.lst 0 [],[]):=rfl
theorem VQ:zZ ob []=some ([],[]):=rfl
theorem Z0 (a:A) (r:List A):zZ ob (a :: r)=(yC ob a).bind fun p=>(zZ ob r).bind fun q=>some (p.1 :: q.1,p.2++q.2):=by
 simp only [zZ]
 cases yC ob a with
 | none=>rfl
 | some p=>obtain ⟨x,l⟩:=p; cases zZ ob r <;> rfl
theorem Kc (d:Nat) (x:D) (j:Nat):ofX ob d (.d x) j=(.d x,[],j):=rfl
theorem RQ (d:Nat) (j:Nat):ofX ob d .nil j=(.nil,[],j):=rfl
theorem QJ (d:Nat) (k j:Nat):ofX ob d (.par k) j=(.undef,[],j):=rfl
theorem Wb (fl:TypeId→Bool) (k:Nat):yq fl (.par k)=true:=by simp only [yq]
theorem OT (ms:List Nat) (x:D) (a:A):yB ob ms (.d x) a=a:=by cases a <;> rfl
theorem ST (ms:List Nat) (a:A):yB ob ms .nil a=a:=by cases a <;> rfl
theorem Uy (ms:List Nat) (e s n:Nat) (c:Option Nat) (cells:List D) (lk:Bool) (a:A):yB ob ms (.own e s n c cells lk) a=a:=by cases a <;> rfl
theorem U0 (ms:List Nat) (xs:List X) (a:A):yB ob ms (.box xs) a=a:=by cases a <;> rfl
theorem UR (ms:List Nat) (xs:List X) (as:List A):yB ob ms (.agg xs) (.agg as)= .agg (ti ob ms xs as):=rfl
theorem SR (ms:List Nat) (xs:List X) (as:List A):yB ob ms (.tup xs) (.tup as)= .tup (ti ob ms xs as):=rfl
def YV (ob:Nat→Ob) (o:Option Nat):A:=match o with
 | some id=> .row id (ob id).ver
 | none=> .undef
@[congr] theorem Kp {ob:Nat→Ob} {o o':Option Nat} (h:o=o'):YV ob o=YV ob o':=by rw [h]
theorem Xx (id:Nat):YV ob (some id)= .row id (ob id).ver:=rfl
theorem TA (ms:List Nat) (k:Nat) (a:A):yB ob ms (.par k) a=YV ob (ms[k]?):=by cases a <;> rfl
theorem XL (ms:List Nat) (as:List A):ti ob ms [] as=as:=by cases as <;> rfl
theorem YO (ms:List Nat) (x:X) (xs:List X) (a:A) (as:List A):ti ob ms (x :: xs) (a :: as)=yB ob ms x a :: ti ob ms xs as:=rfl
theorem RJ (d:Nat) (xs:List X) (j:Nat):ofX ob d (.agg xs) j=(.agg (yy ob d xs j).1,(yy ob d xs j).2.1,(yy ob d xs j).2.2):=rfl
theorem Pz (d:Nat) (xs:List X) (j:Nat):ofX ob d (.tup xs) j=(.tup (yy ob d xs j).1,(yy ob d xs j).2.1,(yy ob d xs j).2.2):=rfl
theorem P7 (d:Nat) (xs:List X) (j:Nat):ofX ob d (.box xs) j=(.adr (oid d j) ((ob (oid d j)).ver+1) 0,(yy ob d xs (j+1)).2.1++[(oid d j,⟨(ob (oid d j)).ver+1,.box (yy ob d xs (j+1)).1,false⟩)],(yy ob d xs (j+1)).2.2):=rfl
theorem TU (d:Nat) (j:Nat):yy ob d [] j=([],[],j):=rfl
theorem Vq (d:Nat) (x:X) (r:List X) (j:Nat):yy ob d (x :: r) j=((ofX ob d x j).1 :: (yy ob d r (ofX ob d x j).2.2).1,(ofX ob d x j).2.1++(yy ob d r (ofX ob d x j).2.2).2.1,(yy ob d r (ofX ob d x j).2.2).2.2):=rfl
theorem Uk {α:Type} (x:Option α) (f:α→Option XOut):fin E (x.bind f)=x.bind fun y=>fin E (f y):=by unfold fin; rw [Option.bind_assoc]
theorem Sl (y:XOut):fin E (some y)=E.wk y:=rfl
theorem UP:fin E none=none:=rfl
theorem PE (p:Prop) [Decidable p] (x y:Option XOut):fin E (if p then x else y)=if p then fin E x else fin E y:=by split <;> rfl
theorem Rx (x:D):uv (.d x)=true:=rfl
theorem XJ:uv .nil=true:=rfl
theorem X8 (e s n:Nat) (c:Option Nat) (cells:List D) (lk:Bool):uv (.own e s n c cells lk)=true:=rfl
theorem XA (k:RK) (x:D):uv (.res k x)=true:=rfl
theorem VY (ps:List Nat) (rs:List RV):qD ps rs (.ret,st)=(Vm.results ps st rs).bind fun x=>(ww st.ob ps).bind fun y=>
   if (zF x.2&&!(x.2.any fun m=>y.2.any (· == m)||ps.any (· == m)))=true then some (.ret x.1 y.1) else none:=rfl
theorem Y7 (ps:List Nat) (rs:List RV):qD ps rs (.normal,st)=(Vm.results ps st rs).bind fun x=>(ww st.ob ps).bind fun y=>
   if (zF x.2&&!(x.2.any fun m=>y.2.any (· == m)||ps.any (· == m)))=true then some (.ret x.1 y.1) else none:=rfl
theorem XI (ps:List Nat) (rs:List RV) (x:D):qD ps rs (.panic x,st)=(ww st.ob ps).bind fun y=>some (.pan x y.1):=by
 simp only [qD]; cases ww st.ob ps <;> rfl
theorem a7 (ps:List Nat) (rs:List RV):Vm.results ps st rs=(ra st rs).bind (mL ps st.ob):=rfl
theorem YU:ra st []=some []:=rfl
theorem aW (r:RV) (rs:List RV):ra st (r :: rs)=(r.get st).bind fun a=>(ra st rs).bind fun y=>some (a :: y):=by
 simp only [ra]
 cases r.get st with
 | none=>rfl
 | some a=>cases ra st rs <;> rfl
theorem Mt (t:Nat):RV.get ⟨s,ob⟩ (.tmp t)=some (s t):=rfl
def ZK (ob:Nat→Ob) (n:Option Nat) (a:A):Option A:=match a with
 | .adr id ver 0=>(pU (ob id) ver).bind fun cells=>match n with
     | none=>cells[0]?
     | some n=>if n ≤ cells.length then some (.agg (cells.take n)) else none
 | _=>none
theorem PL (t:Nat) (n:Option Nat):RV.get ⟨s,ob⟩ (.cell t n)=ZK ob n (s t):=rfl
theorem PK (id ver:Nat):ZK ob none (.adr id ver 0)=(pU (ob id) ver).bind fun cells=>cells[0]? :=rfl
theorem Pe (id ver n:Nat):ZK ob (some n) (.adr id ver 0)=(pU (ob id) ver).bind fun cells=>if n ≤ cells.length then some (.agg (cells.take n)) else none:=rfl
theorem Wz (i:Nat):r9 [] i=none:=rfl
theorem Y5 (p:Nat) (ps:List Nat) (i:Nat):r9 (p :: ps) i=if i=p then some 0 else (r9 ps i).map (· +1):=rfl
theorem TT (ps:List Nat) (a:A):mL ps ob [a]=qQ ps ob a:=rfl
theorem TJ (ps:List Nat):mL ps ob []=some (.tup [],[]):=rfl
theorem UY (ps:List Nat) (a b:A) (r:List A):mL ps ob (a :: b :: r)=(xL ps ob (a :: b :: r)).bind fun x=>some (.tup x.1,x.2):=by
 show (xL ps ob (a :: b :: r)).map _=_
 cases xL ps ob (a :: b :: r) <;> rfl
theorem UH (ps:List Nat) (x:D):qQ ps ob (.d x)=some (.d x,[]):=rfl
theorem YE (ps:List Nat):qQ ps ob .nil=some (.nil,[]):=rfl
theorem YF (ps:List Nat) (id ver:Nat):qQ ps ob (.row id ver)=kP (r9 ps id) (ob id) id ver:=by
 show vB ps ob (.row id ver)=_
 rw [cD]
theorem YR (ps:List Nat) (cs:List A):qQ ps ob (.agg cs)=(xL ps ob cs).bind fun x=>some (.agg x.1,x.2):=by
 show (xL ps ob cs).map _=_
 cases xL ps ob cs <;> rfl
theorem NK (ps:List Nat) (x:D):vB ps ob (.d x)=some (.d x,[]):=rfl
theorem TQ (ps:List Nat):vB ps ob .nil=some (.nil,[]):=rfl
theorem Sb (ps:List Nat) (cs:List A):vB ps ob (.agg cs)=(xL ps ob cs).bind fun x=>some (.agg x.1,x.2):=by
 simp only [vB]; cases xL ps ob cs <;> rfl
theorem Vz (ps:List Nat):xL ps ob []=some ([],[]):=rfl
theorem ZX (ps:List Nat) (a:A) (r:List A):xL ps ob (a :: r)=(vB ps ob a).bind fun x=>(xL ps ob r).bind fun y=>some (x.1 :: y.1,x.2++y.2):=by
 simp only [xL]
 cases vB ps ob a with
 | none=>rfl
 | some p=>cases xL ps ob r <;> rfl
theorem Yj (v:Nat) (cells:List A) (lk:Bool):pC ob ⟨v,.box cells,lk⟩=if v=1 then s8 ob cells else none:=rfl
theorem RS (x:D):oE ob (.d x)=some (x,[]):=rfl
theorem XX:oE ob .nil=some (.nils,[]):=rfl
theorem V3 (id ver:Nat):oE ob (.row id ver)=iP (ob id) id ver:=rfl
theorem YX:s8 ob []=some ([],[]):=rfl
theorem aN (a:A) (r:List A):s8 ob (a :: r)=(oE ob a).bind fun p=>(s8 ob r).bind fun q=>some (p.1 :: q.1,p.2++q.2):=by
 simp only [s8]
 cases oE ob a with
 | none=>rfl
 | some p=>obtain ⟨x,l⟩:=p; cases s8 ob r <;> rfl
theorem Nk (k:IntKind) (n:Int):dA (.int k n)= .d (.int k n):=rfl
theorem PY (b:Bool):dA (.bool b)= .d (.bool b):=rfl
theorem NJ (l:List UInt8):dA (sD l)= .d (sD l):=rfl
theorem LW (f:FuncId):dA (.fn f)= .d (.fn f):=rfl
theorem Je {α:Type} (c:Enc α) (l:List α):dA (zh c l)= .d (zh c l):=rfl
theorem Ol:dA (.lst 0 [])= .d (.lst 0 []):=rfl
theorem Kn (n:Int):dA (iD n)= .d (.int .i64 n):=rfl
theorem Pk:dA .nils= .nil:=rfl
theorem RR:dA .nilp= .d .nilp:=rfl
theorem Og:dA .nilf= .d .nilf:=rfl
theorem Pw:dA .nili= .d .nili:=rfl
theorem V6 (t:TypeId) (x:D):dA (.iface t x)= .d (.iface t x):=rfl
theorem VH (t:TypeId) (x:List D):dA (.ifaceS t x)= .d (.ifaceS t x):=rfl
theorem Wu:D.nils.flat=true:=rfl
theorem bW (ps:List Nat):ww ob ps=(vE ob ps).bind fun y=>if y.2.any (fun m=>ps.any (· == m))=true then none else some y:=rfl
theorem az:vE ob []=some ([],[]):=rfl
theorem cr (id:Nat) (r:List Nat):vE ob (id :: r)=(pC ob (ob id)).bind fun x=>(vE ob r).bind fun y=>some (x.1 :: y.1,x.2++y.2):=by
 simp only [vE]
 cases pC ob (ob id) with
 | none=>rfl
 | some p=>simp only [Option.bind_some]; cases vE ob r <;> rfl
theorem WZ:uO ob []=true:=rfl
theorem YL (id:Nat) (k:KO) (r:List (Nat×KO)):uO ob ((id,k) :: r)=(pK (ob id) k&&uO ob r):=rfl
theorem Xr (i:Nat):enter i []=([],[]):=rfl
theorem Ys (i:Nat) (x:X) (r:List X):enter i (x :: r)=((i,(ofX (fun _=>{}) i x 0).1) :: (enter (i+1) r).1,(ofX (fun _=>{}) i x 0).2.1++(enter (i+1) r).2):=rfl
def iZ (ps keep:List Nat) (st:St) (m:List (Nat×Nat)):Option St:=
 if (zF (m.map (·.1))&&zF (m.map (·.2))&&m.all (fun p=>oB m st.ob (st.ob p.1).o)&&ps.all (fun p=>vS m p == some p&&(st.ob p).ver == 1))=true then
  some ⟨zj (keep.map fun n=>(n,uH m st.ob (st.slot n))),zt (m.map fun p=>(p.2,⟨1,rD m st.ob (st.ob p.1).o,(st.ob p.1).leak⟩))⟩ else none
@[congr] theorem OE {ps keep:List Nat} {st:St} {m m':List (Nat×Nat)} (h:m=m'):iZ ps keep st m=iZ ps keep st m':=by rw [h]
theorem PC (ps keep:List Nat):canon ps keep st=iZ ps keep st (sG keep st):=rfl
theorem Vc (ps keep:List Nat) (m:List (Nat×Nat)):iZ ps keep ⟨s,ob⟩ m=
 if (zF (m.map (·.1))&&zF (m.map (·.2))&&m.all (fun p=>oB m ob (ob p.1).o)&&ps.all (fun p=>vS m p == some p&&(ob p).ver == 1))=true then
  some ⟨zj (keep.map fun n=>(n,uH m ob (s n))),zt (m.map fun p=>(p.2,⟨1,rD m ob (ob p.1).o,(ob p.1).leak⟩))⟩ else none:=rfl
theorem Sd (keep:List Nat):sG keep ⟨s,ob⟩=mR [] (keep.flatMap fun n=>p5 ob (oid n 0) (s n)):=rfl
def Rq (ob:Nat→Ob) (x:Ob) (base id ver:Nat):List (Nat×Nat):=match x.o with
 | .box cells=>if x.ver=ver then (id,base) :: tc ob (base+1) cells else []
 | _=>[]
theorem OL (base:Nat) (x:D):p5 ob base (.d x)=[]:=rfl
theorem Tw (base:Nat):p5 ob base .nil=[]:=rfl
theorem Y3 (base:Nat):p5 ob base .undef=[]:=rfl
theorem PQ (base:Nat) (cs:List D):p5 ob base (.cp cs)=[]:=rfl
theorem T3 (base id ver:Nat):p5 ob base (.row id ver)=if (ob id).ver=ver then [(id,base)] else []:=rfl
theorem UQ (base id ver o:Nat):p5 ob base (.rad id ver o)=[]:=rfl
theorem S6 (base:Nat) (cs:List A):p5 ob base (.tup cs)=[]:=rfl
theorem TM (base id ver o:Nat):p5 ob base (.adr id ver o)=Rq ob (ob id) base id ver:=rfl
theorem UI (base:Nat) (cs:List A):p5 ob base (.agg cs)=tc ob (base+1) cs:=rfl
theorem V4 (base id ver v:Nat) (cells:List A) (lk:Bool):Rq ob ⟨v,.box cells,lk⟩ base id ver=if v=ver then (id,base) :: tc ob (base+1) cells else []:=rfl
theorem cH (base:Nat):tc ob base []=[]:=rfl
theorem dG (base:Nat) (a:A) (r:List A):tc ob base (a :: r)=oJ ob base a++tc ob (base+1) r:=rfl
theorem Wr (base:Nat) (x:D):oJ ob base (.d x)=[]:=rfl
theorem aj (base:Nat):oJ ob base .nil=[]:=rfl
theorem aR (base id ver:Nat):oJ ob base (.row id ver)=if (ob id).ver=ver then [(id,base)] else []:=rfl
theorem ZM (acc:List (Nat×Nat)):mR acc []=acc:=rfl
theorem aK (acc:List (Nat×Nat)) (i j:Nat) (r:List (Nat×Nat)):mR acc ((i,j) :: r)=mR (if (acc.any (fun p=>p.1 == i))=true then acc else acc++[(i,j)]) r:=rfl
theorem V0 (n:Nat):vS [] n=none:=rfl
theorem ZN (i j n:Nat) (r:List (Nat×Nat)):vS ((i,j) :: r) n=if n=i then some j else vS r n:=rfl
def XS (o:Option Nat):A:=match o with | some j=> .row j 1 | none=> .undef
def VD (o:Option Nat) (off:Nat):A:=match o with | some j=> .adr j 1 off | none=> .undef
theorem Ty (j:Nat):XS (some j)= .row j 1:=rfl
theorem SE (j off:Nat):VD (some j) off= .adr j 1 off:=rfl
theorem ND (m:List (Nat×Nat)) (x:D):uH m ob (.d x)= .d x:=rfl
theorem Ul (m:List (Nat×Nat)):uH m ob .nil= .nil:=rfl
theorem Yk (m:List (Nat×Nat)):uH m ob .undef= .undef:=rfl
theorem P1 (m:List (Nat×Nat)) (cs:List D):uH m ob (.cp cs)= .cp cs:=rfl
theorem UF (m:List (Nat×Nat)) (id ver:Nat):uH m ob (.row id ver)=if (ob id).ver=ver then XS (vS m id) else .undef:=rfl
theorem Tx (m:List (Nat×Nat)) (id ver off:Nat):uH m ob (.adr id ver off)=if (ob id).ver=ver then VD (vS m id) off else .undef:=rfl
theorem TI (m:List (Nat×Nat)) (id ver off:Nat):uH m ob (.rad id ver off)= .undef:=rfl
theorem Sw (m:List (Nat×Nat)) (cs:List A):uH m ob (.agg cs)= .agg (rt m ob cs):=rfl
theorem UC (m:List (Nat×Nat)) (cs:List A):uH m ob (.tup cs)= .tup (rt m ob cs):=rfl
theorem WR (m:List (Nat×Nat)):rt m ob []=[]:=rfl
theorem Yx (m:List (Nat×Nat)) (a:A) (r:List A):rt m ob (a :: r)=uH m ob a :: rt m ob r:=rfl
theorem b8:zF []=true:=rfl
theorem fU (x:Nat) (r:List Nat):zF (x :: r)=(!(r.any (· == x))&&zF r):=rfl
theorem RF {α:Type} (f:α→Bool):List.any [] f=false:=rfl
theorem any_cons {α:Type} (f:α→Bool) (a:α) (l:List α):List.any (a :: l) f=(f a||List.any l f):=rfl
theorem Lm {α β:Type} (f:α→List β):List.flatMap f []=[]:=rfl
theorem PA {α β:Type} (f:α→List β) (a:α) (l:List α):List.flatMap f (a :: l)=f a++List.flatMap f l:=by simp
theorem Js {α:Type} (a:α) (l:List α):(a :: l)[0]? =some a:=rfl
theorem JG {α:Type} (a:α) (l:List α) (n:Nat):(a :: l)[n+1]? =l[n]? :=rfl
theorem N5 {α:Type} (l:List α):l.drop 0=l:=rfl
theorem Mo {α:Type} (a:α) (l:List α) (n:Nat):(a :: l).drop (n+1)=l.drop n:=rfl
theorem QQ (f:FuncId) (live:List Nat) (d:Nat) (a:A) (u:Nat×Ob) (us:List (Nat×Ob)) (L:List SOper):yi E live (some d) (.call f) (some (.val a (u :: us))) L k st=gT E live L k { slot:=upd st.slot d a,ob:=za st.ob (u :: us) }:=xF _ _ _ rfl _ _ _ _
theorem O6 (live:List Nat) (d:Nat) (a:A) (u:Nat×Ob) (us:List (Nat×Ob)) (L:List SOper):yi E live (some d) .dyn (some (.val a (u :: us))) L k st=gT E live L k { slot:=upd st.slot d a,ob:=za st.ob (u :: us) }:=xF _ _ _ rfl _ _ _ _
theorem NF (live:List Nat) (d:Nat) (a:A) (u:Nat×Ob) (us:List (Nat×Ob)) (L:List SOper):yi E live (some d) .box (some (.val a (u :: us))) L k st=gT E live L k { slot:=upd st.slot d a,ob:=za st.ob (u :: us) }:=xF _ _ _ rfl _ _ _ _
theorem Tr (z:List A) (live:List Nat) (d:Nat) (a:A) (u:Nat×Ob) (us:List (Nat×Ob)) (L:List SOper):yi E live (some d) (.alloc z) (some (.val a (u :: us))) L k st=gT E live L k { slot:=upd st.slot d a,ob:=za st.ob (u :: us) }:=xF _ _ _ rfl _ _ _ _
theorem NU (e s l:Nat) (live:List Nat) (d:Nat) (a:A) (u:Nat×Ob) (us:List (Nat×Ob)) (L:List SOper):yi E live (some d) (lit e s l) (some (.val a (u :: us))) L k st=gT E live L k { slot:=upd st.slot d a,ob:=za st.ob (u :: us) }:=xF _ _ _ rfl _ _ _ _
theorem NQ (e s b:Nat) (z:List D) (live:List Nat) (d:Nat) (a:A) (u:Nat×Ob) (us:List (Nat×Ob)) (L:List SOper):yi E live (some d) (.mkS e s b z) (some (.val a (u :: us))) L k st=gT E live L k { slot:=upd st.slot d a,ob:=za st.ob (u :: us) }:=xF _ _ _ rfl _ _ _ _
theorem O2 (e s b:Nat) (live:List Nat) (d:Nat) (a:A) (u:Nat×Ob) (us:List (Nat×Ob)) (L:List SOper):yi E live (some d) (.app e s b) (some (.val a (u :: us))) L k st=gT E live L k { slot:=upd st.slot d a,ob:=za st.ob (u :: us) }:=xF _ _ _ rfl _ _ _ _
theorem Qj (e s b:Nat) (z:List D) (live:List Nat) (d:Nat) (a:A) (u:Nat×Ob) (us:List (Nat×Ob)) (L:List SOper):yi E live (some d) (.appZ e s b z) (some (.val a (u :: us))) L k st=gT E live L k { slot:=upd st.slot d a,ob:=za st.ob (u :: us) }:=xF _ _ _ rfl _ _ _ _
theorem N2 (s:Nat) (live:List Nat) (d:Nat) (a:A) (u:Nat×Ob) (us:List (Nat×Ob)) (L:List SOper):yi E live (some d) (.cut s) (some (.val a (u :: us))) L k st=gT E live L k { slot:=upd st.slot d a,ob:=za st.ob (u :: us) }:=xF _ _ _ rfl _ _ _ _
theorem Wf (e s b:Nat) (z:List D):SOp.isSt (.appZ e s b z)=false:=rfl
theorem So (s:Nat):SOp.isSt (.cut s)=false:=rfl
theorem PS (e s b:Nat) (z:List D):SOp.quiet (.appZ e s b z)=false:=rfl
theorem OQ (s:Nat):SOp.quiet (.cut s)=false:=rfl
theorem KC (n:Nat) (live:List Nat) (d:Nat) (a:A) (u:Nat×Ob) (us:List (Nat×Ob)) (L:List SOper):yi E live (some d) (.st n) (some (.val a (u :: us))) L k st=gT E live L k { slot:=upd st.slot d a,ob:=za st.ob (u :: us) }:=xF _ _ _ rfl _ _ _ _
theorem N9 (n:Nat) (live:List Nat) (a:A) (us:List (Nat×Ob)) (L:List SOper):yi E live none (.st n) (some (.val a us)) L k st=gT E live L k { slot:=st.slot,ob:=za st.ob us }:=gI _ _ rfl _ _ _
theorem VO (f:FuncId):SOp.isSt (.call f)=false:=rfl
theorem U7:SOp.isSt .dyn=false:=rfl
theorem UT:SOp.isSt .box=false:=rfl
theorem Z7 (z:List A):SOp.isSt (.alloc z)=false:=rfl
theorem SZ (e s l:Nat):SOp.isSt (lit e s l)=false:=rfl
theorem Sg (e s b:Nat) (z:List D):SOp.isSt (.mkS e s b z)=false:=rfl
theorem UB (e s b:Nat):SOp.isSt (.app e s b)=false:=rfl
theorem PV (n:Nat):SOp.isSt (.st n)=true:=rfl
theorem Uu (i v:Nat):xk (.row i v)=[i]:=rfl
theorem TS (i v o:Nat):xk (.adr i v o)=[i]:=rfl
theorem Sn (i v o:Nat):xk (.rad i v o)=[i]:=rfl
theorem Nc (x:D):xk (.d x)=[]:=rfl
theorem SQ:xk .nil=[]:=rfl
theorem Ye:xk .undef=[]:=rfl
theorem Qh (x:List D):xk (.cp x)=[]:=rfl
theorem U5 (cs:List A):xk (.agg cs)=cs.flatMap u0:=rfl
theorem Ua (cs:List A):xk (.tup cs)=cs.flatMap u0:=rfl
theorem W0 (i v:Nat):u0 (.row i v)=[i]:=rfl
theorem Wg (i v o:Nat):u0 (.adr i v o)=[i]:=rfl
theorem QH (x:D):u0 (.d x)=[]:=rfl
theorem Vl:u0 .nil=[]:=rfl
theorem al (op:SOp):vd op ob []=[]:=rfl
theorem bZ (op:SOp) (i:Nat) (x:Ob) (r:List (Nat×Ob)):vd op ob ((i,x) :: r)=if (!op.isSt&&x.leak&&x.ver == (ob i).ver)=true then vd op ob r else i :: vd op ob r:=rfl
end
section
variable {Γ:Ctx} {ob:Nat→Ob} {d:Nat}
theorem KM (id ver off:Nat):eval Γ ob d (.ld none) [.adr id ver off]=(pU (ob id) ver).bind fun cells=>(cells[off]?).bind fun a=>some (.val a []):=rfl
theorem OS (n id ver off:Nat):eval Γ ob d (.ld (some n)) [.adr id ver off]=(pU (ob id) ver).bind fun cells=>if off+n ≤ cells.length then some (.val (.agg ((cells.drop off).take n)) []) else none:=rfl
theorem Kb (off id ver o:Nat):eval Γ ob d (.fa off) [.adr id ver o]=(pU (ob id) ver).bind fun _=>some (.val (.adr id ver (o+off)) []):=rfl
theorem Kl (n id ver off:Nat) (a:A):eval Γ ob d (.st n) [.adr id ver off,a]=(pU (ob id) ver).bind fun cells=>
   if off+n ≤ cells.length∧(cellsOf a).length=n∧(cellsOf a).all one=true then
    some (.val .undef [(id,⟨(ob id).ver,.box (cells.take off++cellsOf a++cells.drop (off+n)),(ob id).leak⟩)]) else none:=rfl
theorem Ur (id ver off:Nat):eval Γ ob d .nilck [.adr id ver off]=(pU (ob id) ver).bind fun _=>some (.val (.adr id ver off) []):=rfl
theorem Oz (a:A):eval Γ ob d .box [a]=if (cellsOf a).all one=true then some (.val (.adr (oid d 0) ((ob (oid d 0)).ver+1) 0) [(oid d 0,⟨(ob (oid d 0)).ver+1,.box (cellsOf a),false⟩)]) else none:=rfl
theorem TC (cells:List A):eval Γ ob d (.alloc cells) []=if cells.all one=true then some (.val (.adr (oid d 0) ((ob (oid d 0)).ver+1) 0) [(oid d 0,⟨(ob (oid d 0)).ver+1,.box cells,false⟩)]) else none:=rfl
theorem M8 (zero:List A) (parts:List (Nat×Nat)) (as:List A):eval Γ ob d (.bld zero parts) as=(om zero parts as).bind fun cs=>some (.val (.agg cs) []):=rfl
theorem N3 (off:Nat) (cs:List A):eval Γ ob d (.fld off none) [.agg cs]=(cs[off]?).bind fun a=>some (.val a []):=rfl
theorem RG (off n:Nat) (cs:List A):eval Γ ob d (.fld off (some n)) [.agg cs]=if off+n ≤ cs.length then some (.val (.agg ((cs.drop off).take n)) []) else none:=rfl
theorem Lp (i:Nat) (cs:List A):eval Γ ob d (.ext i) [.tup cs]=(cs[i]?).bind fun a=>some (.val a []):=rfl
theorem Ls (k k':IntKind) (n:Int):eval Γ ob d (.cvt k) [.d (.int k' n)]=some (.val (.d (.int k (k.wrap n))) []):=rfl
theorem Kh (max:Bool) (k:IntKind) (a b:Int):eval Γ ob d (.mm max) [.d (.int k a),.d (.int k b)]=some (.val (.d (.int k (if max=true then (if a < b then b else a) else (if b < a then b else a)))) []):=by simp [eval,ok]
theorem OO (k:IntKind) (a b:Int):eval Γ ob d (.bin .quo) [.d (.int k a),.d (.int k b)]=if b=0 then none else some (.val (.d (.int k (k.wrap (a.tdiv b)))) []):=by
 simp only [eval,xV,wR,ok,if_true]; split <;> rfl
theorem Nv (k:IntKind) (a b:Int):eval Γ ob d (.bin .rem) [.d (.int k a),.d (.int k b)]=if b=0 then none else some (.val (.d (.int k (a.tmod b))) []):=by
 simp only [eval,xV,wR,ok,if_true]; split <;> rfl
theorem QM (t:Nat) (x:D):eval Γ ob d .pan [.d (.iface t x)]=some (.pan (.iface t x) []):=rfl
theorem PZ (t:Nat) (xs:List D):eval Γ ob d .pan [.d (.ifaceS t xs)]=some (.pan (.ifaceS t xs) []):=rfl
theorem NP (f:FuncId):eval Γ ob d (.mkF f) []=some (.val (.d (.fn f)) []):=rfl
theorem MS (t:TypeId) (x:D):eval Γ ob d (.mkI t) [.d x]=some (.val (.d (.iface t x)) []):=rfl
theorem QV (t:TypeId) (cs:List A):eval Γ ob d (.mkI t) [.agg cs]=(zZ ob cs).bind fun p=>some (.val (.d (.ifaceS t p.1)) (zl ob p.2)):=rfl
theorem Oj (e size len:Nat) (parts:List (Nat×Nat)) (as:List A):eval Γ ob d (.bldS e size len parts) as=
  if parts=(List.range len).map (fun i=>(i * size,size))∧as.length=len∧(as.all fun a=>decide ((cellsOf a).length=size))=true then
   (zZ ob (as.flatMap cellsOf)).bind fun p=>some (.val (.row (oid d 0) ((ob (oid d 0)).ver+1)) (zl ob p.2++[(oid d 0,⟨(ob (oid d 0)).ver+1,.row e size len (some len) p.1,false⟩)])) else none:=by
 simp only [eval]; rfl
def gp (e size len:Nat) (xs:List D):O:= .row e size len (some len) xs
def Zv (e size n:Nat) (cap:Nat) (zero:List D):O:= .row e size n (some cap) (List.replicate n zero).flatten
theorem Ll (e size len:Nat) (as:List A):eval Γ ob d (lit e size len) as=
  if as.length=len∧(as.all fun a=>decide ((cellsOf a).length=size))=true then
   (zZ ob (as.flatMap cellsOf)).bind fun p=>some (.val (.row (oid d 0) ((ob (oid d 0)).ver+1)) (zl ob p.2++[(oid d 0,⟨(ob (oid d 0)).ver+1,gp e size len p.1,false⟩)])) else none:=by
 unfold lit gp
 rw [Oj]
 by_cases h:as.length=len∧(as.all fun a=>decide ((cellsOf a).length=size))=true
 ·rw [if_pos h,if_pos ⟨rfl,h.1,h.2⟩]
 ·rw [if_neg h,if_neg (fun q=>h q.2)]
def fg (bytes:Nat) (l c:Int):Prop:=0 ≤ l∧l ≤ c∧(bytes:Int) * c ≤ wF∧c ≤ 9223372036854775807
instance (b:Nat) (l c:Int):Decidable (fg b l c):=by unfold fg; infer_instance
theorem Nf (e size bytes:Nat) (zero:List D) (k k':IntKind) (l c:Int):eval Γ ob d (.mkS e size bytes zero) [.d (.int k l),.d (.int k' c)]=
  if fg bytes l c then if zero.length=size∧0 < size then
   some (.val (.row (oid d 0) ((ob (oid d 0)).ver+1)) [(oid d 0,⟨(ob (oid d 0)).ver+1,Zv e size l.toNat c.toNat zero,false⟩)]) else none else none:=by
 by_cases h:fg bytes l c
 ·rw [if_pos h]
  by_cases h':zero.length=size∧0 < size
  ·rw [if_pos h']
   exact if_pos ⟨h.1,h.2.1,h.2.2.1,h.2.2.2,h'.1,h'.2⟩
  ·rw [if_neg h']
   exact if_neg (fun q=>h' ⟨q.2.2.2.2.1,q.2.2.2.2.2⟩)
 ·rw [if_neg h]
  exact if_neg (fun q=>h ⟨q.1,q.2.1,q.2.2.1,q.2.2.2.1⟩)
theorem Rz (a b:List UInt8):eval Γ ob d (.bin .add) [.d (sD a),.d (sD b)]=if qI (a++b).length then some (.val (.d (sD (a++b))) []) else none:=by
 simp only [eval,xV,qA,sD,qI,List.length_append]
 have h1:(ByteArray.mk a.toArray).size=a.length:=rfl
 have h2:(ByteArray.mk b.toArray).size=b.length:=rfl
 rw [h1,h2]
 split
 ·simp only [Option.bind_some,ok]
  congr 5
 ·rfl
theorem Qq (a b:List UInt8):eval Γ ob d (.bin .eql) [.d (sD a),.d (sD b)]=some (.val (.d (.bool (decide (a=b)))) []):=by
 simp only [eval,xV,qA,sD,nn,Option.bind_some,ok]
 congr 4
 exact (Bool.beq_eq_decide_eq a b)
theorem QX (a b:List UInt8):eval Γ ob d (.bin .neq) [.d (sD a),.d (sD b)]=some (.val (.d (.bool (!decide (a=b)))) []):=by
 simp only [eval,xV,qA,sD,nn,Option.bind_some,ok]
 congr 5
 exact (Bool.beq_eq_decide_eq a b)
def xZ (a b:List UInt8):Bool:=Op.bytesLess a b
theorem PT (a b:List UInt8):eval Γ ob d (.bin .lss) [.d (sD a),.d (sD b)]=some (.val (.d (.bool (xZ a b))) []):=by
 simp only [eval,xV,qA,sD,nn,Option.bind_some,ok,xZ]
theorem Qn (a b:List UInt8):eval Γ ob d (.bin .geq) [.d (sD a),.d (sD b)]=some (.val (.d (.bool (!xZ a b))) []):=by
 simp only [eval,xV,qA,sD,nn,Option.bind_some,ok,xZ]
theorem Qk (a b:List UInt8):eval Γ ob d (.bin .gtr) [.d (sD a),.d (sD b)]=some (.val (.d (.bool (!(xZ a b||decide (a=b))))) []):=by
 simp only [eval,xV,qA,sD,nn,Option.bind_some,ok,xZ]
 congr 6
 exact (Bool.beq_eq_decide_eq a b)
theorem VW (z:List A):om z [] []=some z:=rfl
theorem Yu (z:List A) (off size:Nat) (ps:List (Nat×Nat)) (a:A) (r:List A):om z ((off,size) :: ps) (a :: r)=
  if (cellsOf a).length=size∧off+size ≤ z.length∧(cellsOf a).all one=true then om (z.take off++cellsOf a++z.drop (off+size)) ps r else none:=rfl
theorem aF (i v:Nat):cellsOf (.row i v)=[.row i v]:=rfl
theorem aJ:cellsOf .nil=[.nil]:=rfl
theorem ay (i v o:Nat):cellsOf (.adr i v o)=[.adr i v o]:=rfl
theorem M6 (xs:List D):eval Γ ob d (.fa 0) [.cp xs]=some (.val (.cp xs) []):=by simp [eval,pT,ok]
theorem O0 (a:D) (xs:List D):eval Γ ob d (.fa 1) [.cp (a :: xs)]=some (.val (.cp xs) []):=by simp [eval,pT,ok]
theorem MW (a b:D) (xs:List D):eval Γ ob d (.fa 2) [.cp (a :: b :: xs)]=some (.val (.cp xs) []):=by simp [eval,pT,ok]
theorem No (a b c:D) (xs:List D):eval Γ ob d (.fa 3) [.cp (a :: b :: c :: xs)]=some (.val (.cp xs) []):=by simp [eval,pT,ok]
theorem Mf (a b c e:D) (xs:List D):eval Γ ob d (.fa 4) [.cp (a :: b :: c :: e :: xs)]=some (.val (.cp xs) []):=by simp [eval,pT,ok]
theorem Pp (a:D) (xs:List D):eval Γ ob d (.ld (some 1)) [.cp (a :: xs)]=some (.val (.agg [.d a]) []):=by simp [eval,rz,ok]
theorem R0 (a b:D) (xs:List D):eval Γ ob d (.ld (some 2)) [.cp (a :: b :: xs)]=some (.val (.agg [.d a,.d b]) []):=by simp [eval,rz,ok]
theorem Qx (a b c:D) (xs:List D):eval Γ ob d (.ld (some 3)) [.cp (a :: b :: c :: xs)]=some (.val (.agg [.d a,.d b,.d c]) []):=by simp [eval,rz,ok]
theorem PU (a b c e:D) (xs:List D):eval Γ ob d (.ld (some 4)) [.cp (a :: b :: c :: e :: xs)]=some (.val (.agg [.d a,.d b,.d c,.d e]) []):=by simp [eval,rz,ok]
theorem Lw (a b c e f:D) (xs:List D):eval Γ ob d (.fa 5) [.cp (a :: b :: c :: e :: f :: xs)]=some (.val (.cp xs) []):=by simp [eval,pT,ok]
theorem QU (a b c e f:D) (xs:List D):eval Γ ob d (.ld (some 5)) [.cp (a :: b :: c :: e :: f :: xs)]=some (.val (.agg [.d a,.d b,.d c,.d e,.d f]) []):=by simp [eval,rz,ok]
theorem Qs (a b c e f g:D) (xs:List D):eval Γ ob d (.ld (some 6)) [.cp (a :: b :: c :: e :: f :: g :: xs)]=some (.val (.agg [.d a,.d b,.d c,.d e,.d f,.d g]) []):=by simp [eval,rz,ok]
theorem Wh (neg:Bool):eval Γ ob d (.inil neg) [.d .nili]=some (.val (.d (.bool !neg)) []):=rfl
theorem XK (neg:Bool) (t:TypeId) (x:D):eval Γ ob d (.inil neg) [.d (.iface t x)]=some (.val (.d (.bool neg)) []):=rfl
theorem WK (neg:Bool) (t:TypeId) (xs:List D):eval Γ ob d (.inil neg) [.d (.ifaceS t xs)]=some (.val (.d (.bool neg)) []):=rfl
theorem Nl (t u:TypeId) (x:D):eval Γ ob d (.ta t) [.d (.iface u x)]=if u=t then some (.val (.tup [.d x,.d (.bool true)]) []) else none:=rfl
theorem Mi (t u:TypeId) (xs:List D):eval Γ ob d (.ta t) [.d (.ifaceS u xs)]=if u=t then some (.val (.tup [.agg (xs.map .d),.d (.bool true)]) []) else none:=rfl
theorem ML (n size id ver o:Nat) (k:IntKind) (i:Int):eval Γ ob d (.iaa n size) [.adr id ver o,.d (.int k i)]=
  (pU (ob id) ver).bind fun _=>if 0 ≤ i∧i < (n:Int) then some (.val (.adr id ver (o+i.toNat * size)) []) else none:=rfl
theorem OX (n size:Nat) (cs:List A) (k:IntKind) (i:Int):eval Γ ob d (.ixa n size none) [.agg cs,.d (.int k i)]=
  if 0 ≤ i∧i < (n:Int) then (cs[i.toNat * size]?).bind fun a=>some (.val a []) else none:=rfl
def tab {α:Type}:List α→Nat→Nat→Option α
 | [],_,_=>none
 | a :: l,n,j=>if n=j then some a else tab l n (j+1)
theorem Qu {α:Type} (n j:Nat):tab ([]:List α) n j=none:=rfl
theorem Sk {α:Type} (a:α) (l:List α) (n j:Nat):tab (a :: l) n j=if n=j then some a else tab l n (j+1):=rfl
theorem fJ {α:Type}:∀ (l:List α) (n j:Nat),tab l (n+j) j=l[n]?
 | [],n,j=>by simp [tab]
 | a :: l,0,j=>by simp [tab]
 | a :: l,n+1,j=>by
   simp only [tab,List.getElem?_cons_succ]
   rw [if_neg (by omega),← fJ l n (j+1)]
   congr 1; omega
theorem Mr {α:Type} (a:α) (l:List α) (i:Int) (s:Nat):(a :: l)[i.toNat * s]? =tab (a :: l) (i.toNat * s) 0:=(fJ (a :: l) (i.toNat * s) 0).symm
theorem RH {α:Type} (a:α) (l:List α) (i:Int):(a :: l)[i.toNat]? =tab (a :: l) i.toNat 0:=(fJ (a :: l) i.toNat 0).symm
theorem Oi {E:En} {k:List KJ} {st:St} (b:Cd) (id ver off:Nat):gFz E b k st (.adr id ver off)=(pU (st.ob id) ver).bind fun cells=>(zZ st.ob cells).bind fun p=>
  G E b k { slot:=st.slot,ob:=za st.ob (zl st.ob p.2++[(id,⟨(st.ob id).ver,.box (p.1.map dA),(st.ob id).leak⟩)]) }:=rfl
def ip (a:A) (p:Prop) [Decidable p] (q:IntKind) (x:Int):A:=match a with
 | .d (.int q' y)=>if q'=q then .d (.int q (if p then x else y)) else if p then .d (.int q x) else a
 | _=>if p then .d (.int q x) else a
theorem fi (a:A) (p:Prop) [Decidable p] (q:IntKind) (x:Int):ip a p q x=if p then .d (.int q x) else a:=by
 unfold ip
 split
 ·split
  ·rename_i e; subst e; split <;> rfl
  ·rfl
 ·rfl
theorem bg (y:Int) (p:Prop) [Decidable p] (q:IntKind) (x:Int):ip (.d (.int q y)) p q x= .d (.int q (if p then x else y)):=by
 unfold ip; simp
theorem Ic (y:Int) (p:Prop) [Decidable p] (x:Int):ip (.d (iD y)) p .i64 x= .d (.int .i64 (if p then x else y)):=bg y p .i64 x
theorem LQ (n:Int):A.d (iD n)= .d (.int .i64 n):=rfl
def ir:List A→Nat→Nat→IntKind→Int→List A
 | [],_,_,_,_=>[]
 | a :: l,k,j,q,x=>ip a (j=k) q x :: ir l (k+1) j q x
theorem TK (k j:Nat) (q:IntKind) (x:Int):ir [] k j q x=[]:=rfl
theorem nr (a:A) (l:List A) (k j:Nat) (q:IntKind) (x:Int):ir (a :: l) k j q x=ip a (j=k) q x :: ir l (k+1) j q x:=rfl
theorem ej:∀ (l:List A) (k j:Nat) (q:IntKind) (x:Int),j < k→ir l k j q x=l
 | [],_,_,_,_,_=>rfl
 | a :: l,k,j,q,x,h=>by rw [nr,fi,if_neg (by omega),ej l (k+1) j q x (by omega)]
theorem Zm:∀ (l:List A) (k j:Nat) (q:IntKind) (x:Int),j < l.length→ir l k (k+j) q x=l.take j++[.d (.int q x)]++l.drop (j+1)
 | [],k,j,q,x,h=>by simp at h
 | a :: l,k,0,q,x,h=>by rw [nr,fi,if_pos (by omega),ej l (k+1) (k+0) q x (by omega)]; simp
 | a :: l,k,j+1,q,x,h=>by
   rw [nr,fi,if_neg (by omega),show k+(j+1)=k+1+j by omega,Zm l (k+1) j q x (by simpa using h)]
   simp
theorem Ms (i:Int) (s id v:Nat) (q:IntKind) (x:Int) (lk:Bool) (cells:List A):
  (if i.toNat * s+1 ≤ cells.length∧(cellsOf (.d (.int q x))).length=1∧(cellsOf (.d (.int q x))).all one=true then
    some (Out.val .undef [(id,⟨v,.box (cells.take (i.toNat * s)++cellsOf (.d (.int q x))++cells.drop (i.toNat * s+1)),lk⟩)]) else none)
  =if i.toNat * s < cells.length then some (Out.val .undef [(id,⟨v,.box (ir cells 0 (i.toNat * s) q x),lk⟩)]) else none:=by
 have e1:(cellsOf (.d (.int q x))).length=1∧(cellsOf (.d (.int q x))).all one=true:=⟨rfl,rfl⟩
 by_cases h:i.toNat * s < cells.length
 ·rw [if_pos ⟨by omega,e1⟩,if_pos h]
  have:=Zm cells 0 (i.toNat * s) q x h
  rw [Nat.zero_add] at this
  rw [this]; rfl
 ·rw [if_neg (fun p=>by omega),if_neg h]
def stB (x:Option (List D×List Nat)):O:=match x with
 | some (xs,_)=> .box (xs.map dA)
 | none=> .dead
@[congr] theorem KT {x x':Option (List D×List Nat)} (h:x=x'):stB x=stB x':=by rw [h]
theorem V8 (xs:List D) (l:List Nat):stB (some (xs,l))= .box (xs.map dA):=rfl
theorem Yl (cells:List A):tr ob (.box cells)=stB (zZ ob cells):=by
 simp only [tr]
 cases zZ ob cells <;> rfl
theorem Tu {α:Type} (c:Enc α) (e:Nat) (cap:Option Nat) (l:List α):tr ob (zY c e cap l)= .dead:=rfl
theorem Z5:kp [] ob=[]:=rfl
theorem ar (id:Nat) (r:List Nat):kp (id :: r) ob=(id,⟨(ob id).ver,tr ob (ob id).o,false⟩) :: kp r ob:=rfl
@[congr] theorem KI {E:En} {ids da:List Nat} {x:D} {st st':St} (h:st=st'):dZ E ids da x st=dZ E ids da x st':=by rw [h]
@[congr] theorem Jz {E:En} {b:Cd} {st st':St} (h:st=st'):gB E b st=gB E b st':=by rw [h]
end
end Go.Vm
