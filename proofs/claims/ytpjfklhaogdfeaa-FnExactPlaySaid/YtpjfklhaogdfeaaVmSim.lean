/- The rules by which a call is rewritten into a plain Lean function, bundled. -/
import Derived.Test.YtpjfklhaogdfeaaVmObj
set_option linter.unusedSectionVars false
set_option linter.unusedSimpArgs false
set_option linter.unusedVariables false
namespace Go.Vm
def gS (E:En) (k:List KJ) (st:St):Option XOut:=yg E k (.normal,st)
def gE (E:En) (k:List KJ) (e:Ex) (st:St):Option XOut:=yg E k (e,st)
@[congr] theorem Hd {E:En} {k:List KJ} {st st':St} (h:st=st'):gS E k st=gS E k st':=by rw [h]
@[congr] theorem Im {α:Type} {c c':Option Bool} {x y:Option α} (h:c=c'):gIf c x y=gIf c' x y:=by rw [h]
@[congr] theorem JR {E:En} {d:Option Nat} {x x':Option Out} {l:List SOper} {k:List KJ} {st:St} (h:x=x'):vj E d x l k st=vj E d x' l k st:=by rw [h]
@[congr] theorem Jd {E:En} {v:List Nat} {d:Option Nat} {op:SOp} {x x':Option Out} {l:List SOper} {k:List KJ} {st:St} (h:x=x'):
   yI E v d op x l k st=yI E v d op x' l k st:=by rw [h]
@[congr] theorem IB {E:En} {keep:List Nat} {b:Cd} {m:Nat} {k:List KJ} {x x':Option St} (h:x=x'):gC E keep b m k x=gC E keep b m k x':=by rw [h]
def sel {α:Type} (c:Bool) (x y:α):α:=match c with
 | true=>x
 | false=>y
@[congr] theorem Ir {α:Type} {c c':Bool} {x y:α} (h:c=c'):sel c x y=sel c' x y:=by rw [h]
theorem H2 {α:Type} (x y:α):sel true x y=x:=rfl
theorem HZ {α:Type} (x y:α):sel false x y=y:=rfl
theorem Xi {α:Type} (f:Nat→α) (n m:Nat) (v:α):upd f n v m=sel (m == n) v (f m):=by
 unfold upd sel
 by_cases h:m=n
 ·subst h; simp
 ·rw [if_neg h]
  have:(m == n)=false:=by simpa using h
  rw [this]
theorem Ij (i:Nat) (a:A) (r:List (Nat×A)) (n:Nat):zk ((i,a) :: r) n=sel (n == i) a (zk r n):=Xi (zk r) i n a
theorem HC (i:Nat) (o:Ob) (r:List (Nat×Ob)) (n:Nat):zw ((i,o) :: r) n=sel (n == i) o (zw r n):=Xi (zw r) i n o
@[congr] theorem Id {Γ:Ctx} {ob:Nat→Ob} {d:Nat} {op:SOp} {as as':List A} (h:as=as'):eval Γ ob d op as=eval Γ ob d op as':=by rw [h]
section
variable {E:En} {k:List KJ} {st:St} {s:Nat→A} {ob:Nat→Ob}
theorem Ol (l:List (Nat×A)) (ob:Nat→Ob):gS E k ⟨zk l,ob⟩=yg E k (.normal,⟨zk l,ob⟩):=rfl
theorem Hp (live:List Nat):yg E (.v live :: k) (.normal,st)=gS E k ⟨zk (live.map fun n=>(n,st.slot n)),st.ob⟩:=rfl
theorem Lg (live:List Nat):ly E live k (.normal,st)=yg E (.v live :: k) (.normal,st):=rfl
theorem ON (live:List Nat) (x:D):ly E live k (.panic x,st)=yg E k (.panic x,st.forget E.ps):=rfl
theorem O9 (keep:List Nat) (b:Cd) (m:Nat):gL E keep b m k st=gC E keep b m k (canon E.ps keep st):=Js keep b m
theorem Po {α:Type} (b:Bool) (x y:Option α):gIf (some b) x y=if b=true then x else y:=by cases b <;> rfl
theorem Pj {α:Type} (x y:Option α):gIf (some true) x y=x:=rfl
theorem Pf {α:Type} (x y:Option α):gIf (some false) x y=y:=rfl
theorem zu {α β:Type} (p:Prop) [Decidable p] (x y:Option α) (f:α→Option β):(if p then x else y).bind f=if p then x.bind f else y.bind f:=by split <;> rfl
theorem H7 (b:Bool):(b=true)=(b=true):=rfl
def dR (fl:TypeId→Bool) (ob:Nat→Ob) (d:Nat) (ls ms:List Nat) (x:Option XOut):Option Out:=x.bind fun
    | .ret x outs=>(yX ob ms outs).map fun bs=> .val (yS (za ob bs) ms x (ofX (za ob bs) d x 0).1) ((if yO fl x&&outs.all rG then [] else zo ob ls)++(bs++(ofX (za ob bs) d x 0).2.1))
    | .pan x outs=>(yX ob ms outs).map fun bs=> .pan x (zo ob ls++bs)
def dc (c:Bool) (ob:Nat→Ob) (ls:List Nat):List (Nat×Ob):=if c=true then [] else zo ob ls
@[congr] theorem J3 {c c':Bool} {ob:Nat→Ob} {ls:List Nat} (h:c=c'):dc c ob ls=dc c' ob ls:=by rw [h]
theorem VQ (ob:Nat→Ob) (ls:List Nat):dc true ob ls=[]:=rfl
theorem Uw (c:Bool) (ob:Nat→Ob):dc c ob []=[]:=by cases c <;> rfl
theorem Vs (ob:Nat→Ob) (ls:List Nat):dc false ob ls=zo ob ls:=rfl
theorem Oj (fl:TypeId→Bool) (x:D):yO fl (.d x)=x.flat:=by simp only [yO]
theorem Ui (fl:TypeId→Bool):yO fl .nil=true:=by simp only [yO]
theorem Um (fl:TypeId→Bool) (xs:List X):yO fl (.agg xs)=uu fl xs:=by simp only [yO]
theorem Vp (fl:TypeId→Bool) (xs:List X):yO fl (.tup xs)=uu fl xs:=by simp only [yO]
theorem VR (fl:TypeId→Bool) (xs:List X):yO fl (.box xs)=uu fl xs:=by simp only [yO]
theorem WU (fl:TypeId→Bool):uu fl []=true:=by simp only [uu]
theorem Z9 (fl:TypeId→Bool) (x:X) (xs:List X):uu fl (x :: xs)=(yO fl x&&uu fl xs):=by simp only [uu]
theorem S9 (k:IntKind) (n:Int):(D.int k n).flat=true:=rfl
theorem V0 (b:Bool):(D.bool b).flat=true:=rfl
theorem Ql (l:List UInt8):(sD l).flat=true:=rfl
theorem Na (f:FuncId):(D.fn f).flat=true:=rfl
theorem Td:D.nilp.flat=true:=rfl
theorem VT:D.nilf.flat=true:=rfl
theorem Vn:D.nili.flat=true:=rfl
theorem Wy (t:TypeId) (x:D):(D.iface t x).flat=false:=rfl
theorem Yt (t:TypeId) (x:List D):(D.ifaceS t x).flat=false:=rfl
theorem Ur:(D.lst 0 []).flat=false:=rfl
theorem Mj {α:Type} (c:Enc α) (l:List α):(zb c l).flat=false:=rfl
theorem Wz (ds:List D):rG ds=ds.all D.flat:=rfl
def dC (Γ:Ctx) (ob:Nat→Ob) (d:Nat) (f:FuncId) (x:Option (List X×List Nat×List Nat)):Option Out:=x.bind fun p=>
 if zV p.2.2&&!(p.2.2.any fun m=>p.2.1.any (· == m)) then dR Γ.fl ob d p.2.1 p.2.2 (Γ f p.1) else none
@[congr] theorem IE {fl:TypeId→Bool} {ob:Nat→Ob} {d:Nat} {ls ms:List Nat} {x x':Option XOut} (h:x=x'):dR fl ob d ls ms x=dR fl ob d ls ms x':=by rw [h]
@[congr] theorem IW {Γ:Ctx} {ob:Nat→Ob} {d:Nat} {f:FuncId} {x x':Option (List X×List Nat×List Nat)} (h:x=x'):dC Γ ob d f x=dC Γ ob d f x':=by rw [h]
theorem Ys (Γ:Ctx) (ob:Nat→Ob) (d:Nat) (as:List A):eval Γ ob d .dyn (.d .nilf :: as)=none:=rfl
theorem T0 (Γ:Ctx) (ob:Nat→Ob) (d:Nat) (f:FuncId) (as:List A):eval Γ ob d (.call f) as=dC Γ ob d f (vc (Γ.mu f) ob as):=rfl
theorem Nm (Γ:Ctx) (ob:Nat→Ob) (d:Nat) (f:FuncId) (as:List A):eval Γ ob d .dyn (.d (.fn f) :: as)=dC Γ ob d f (vc (Γ.mu f) ob as):=rfl
theorem NN (Γ:Ctx) (ob:Nat→Ob) (d:Nat) (f:FuncId) (xs:List X) (ls ms:List Nat):dC Γ ob d f (some (xs,ls,ms))=
  if (zV ms&&!(ms.any fun m=>ls.any (· == m)))=true then dR Γ.fl ob d ls ms (Γ f xs) else none:=rfl
theorem PS {α:Type} (fl:TypeId→Bool) (ob:Nat→Ob) (d:Nat) (ls ms:List Nat) (x:Option α) (f:α→Option XOut):dR fl ob d ls ms (x.bind f)=x.bind fun y=>dR fl ob d ls ms (f y):=by
 unfold dR; rw [Option.bind_assoc]
theorem LX (fl:TypeId→Bool) (ob:Nat→Ob) (d:Nat) (ls ms:List Nat) (x:X) (outs:List (List D)):dR fl ob d ls ms (some (.ret x outs))=
  (yX ob ms outs).bind fun bs=>some (.val (yS (za ob bs) ms x (ofX (za ob bs) d x 0).1) (dc (yO fl x&&outs.all rG) ob ls++(bs++(ofX (za ob bs) d x 0).2.1))):=by
 simp only [dR,Option.bind_some]; cases yX ob ms outs <;> rfl
theorem Jc (fl:TypeId→Bool) (ob:Nat→Ob) (d:Nat) (ls ms:List Nat) (x:D) (outs:List (List D)):dR fl ob d ls ms (some (.pan x outs))=
  (yX ob ms outs).bind fun bs=>some (.pan x (zo ob ls++bs)):=by
 simp only [dR,Option.bind_some]; cases yX ob ms outs <;> rfl
theorem OP (fl:TypeId→Bool) (ob:Nat→Ob) (d:Nat) (ls ms:List Nat):dR fl ob d ls ms none=none:=rfl
theorem Tx (ob:Nat→Ob):yX ob [] []=some []:=rfl
theorem WV (ob:Nat→Ob) (id:Nat) (r:List Nat) (ds:List D) (xs:List (List D)):yX ob (id :: r) (ds :: xs)=
  (qP (ob id) ds).bind fun x=>(yX ob r xs).bind fun y=>some ((id,x) :: y):=by
 simp only [yX]
 cases qP (ob id) ds with
 | none=>rfl
 | some x=>cases yX ob r xs <;> rfl
theorem UX (v:Nat) (cells:List A) (lk:Bool) (ds:List D):qP ⟨v,.box cells,lk⟩ ds=some ⟨v,.box (ds.map dA),false⟩:=rfl
theorem Tl (ob:Nat→Ob):zo ob []=[]:=rfl
theorem Wr (ob:Nat→Ob) (i:Nat) (r:List Nat):zo ob (i :: r)=(i,⟨(ob i).ver,(ob i).o,true⟩) :: zo ob r:=rfl
theorem JO (m:Bool) (x:D):toX m ob (.d x)=some (.d x,[],[]):=rfl
theorem TU:toX false ob .nil=some (.d (.lst 0 []),[],[]):=rfl
theorem QV:toX true ob .nil=some (.nil,[],[]):=rfl
theorem NL (m:Bool) (cs:List A):toX m ob (.agg cs)=(vc m ob cs).bind fun p=>some (.agg p.1,p.2.1,p.2.2):=by
 simp only [toX]; cases vc m ob cs <;> rfl
theorem SH (m:Bool):vc m ob []=some ([],[],[]):=rfl
theorem TJ (m:Bool) (a:A) (r:List A):vc m ob (a :: r)=(toX m ob a).bind fun p=>(vc m ob r).bind fun q=>some (p.1 :: q.1,p.2.1++q.2.1,p.2.2++q.2.2):=by
 simp only [vc]
 cases toX m ob a with
 | none=>rfl
 | some p=>obtain ⟨x,l,k⟩:=p; cases vc m ob r <;> rfl
theorem Zx:wb []=some []:=rfl
theorem Wj (x:D) (r:List A):wb (.d x :: r)=(wb r).bind fun y=>some (x :: y):=by
 simp only [wb]; cases wb r <;> rfl
theorem N9 (x:D):yT ob (.d x)=some (x,[]):=rfl
theorem Rd:yT ob .nil=some (.lst 0 [],[]):=rfl
theorem U2:yp ob []=some ([],[]):=rfl
theorem WG (a:A) (r:List A):yp ob (a :: r)=(yT ob a).bind fun p=>(yp ob r).bind fun q=>some (p.1 :: q.1,p.2++q.2):=by
 simp only [yp]
 cases yT ob a with
 | none=>rfl
 | some p=>obtain ⟨x,l⟩:=p; cases yp ob r <;> rfl
theorem JH (d:Nat) (x:D) (j:Nat):ofX ob d (.d x) j=(.d x,[],j):=rfl
theorem PV (d:Nat) (j:Nat):ofX ob d .nil j=(.nil,[],j):=rfl
theorem Pv (d:Nat) (k j:Nat):ofX ob d (.par k) j=(.undef,[],j):=rfl
theorem UY (fl:TypeId→Bool) (k:Nat):yO fl (.par k)=true:=by simp only [yO]
theorem Mm (ms:List Nat) (x:D) (a:A):yS ob ms (.d x) a=a:=by cases a <;> rfl
theorem SG (ms:List Nat) (a:A):yS ob ms .nil a=a:=by cases a <;> rfl
theorem RA (ms:List Nat) (e s n:Nat) (c:Option Nat) (cells:List D) (lk:Bool) (a:A):yS ob ms (.own e s n c cells lk) a=a:=by cases a <;> rfl
theorem RM (ms:List Nat) (xs:List X) (a:A):yS ob ms (.box xs) a=a:=by cases a <;> rfl
theorem Ro (ms:List Nat) (xs:List X) (as:List A):yS ob ms (.agg xs) (.agg as)= .agg (sd ob ms xs as):=rfl
theorem RR (ms:List Nat) (xs:List X) (as:List A):yS ob ms (.tup xs) (.tup as)= .tup (sd ob ms xs as):=rfl
def Wm (ob:Nat→Ob) (o:Option Nat):A:=match o with
 | some id=> .row id (ob id).ver
 | none=> .undef
@[congr] theorem JW {ob:Nat→Ob} {o o':Option Nat} (h:o=o'):Wm ob o=Wm ob o':=by rw [h]
theorem VK (id:Nat):Wm ob (some id)= .row id (ob id).ver:=rfl
theorem Qy (ms:List Nat) (k:Nat) (a:A):yS ob ms (.par k) a=Wm ob (ms[k]?):=by cases a <;> rfl
theorem U1 (ms:List Nat) (as:List A):sd ob ms [] as=as:=by cases as <;> rfl
theorem Wa (ms:List Nat) (x:X) (xs:List X) (a:A) (as:List A):sd ob ms (x :: xs) (a :: as)=yS ob ms x a :: sd ob ms xs as:=rfl
theorem Ng (d:Nat) (xs:List X) (j:Nat):ofX ob d (.agg xs) j=(.agg (yP ob d xs j).1,(yP ob d xs j).2.1,(yP ob d xs j).2.2):=rfl
theorem O2 (d:Nat) (xs:List X) (j:Nat):ofX ob d (.tup xs) j=(.tup (yP ob d xs j).1,(yP ob d xs j).2.1,(yP ob d xs j).2.2):=rfl
theorem P1 (d:Nat) (xs:List X) (j:Nat):ofX ob d (.box xs) j=(.adr (oid d j) ((ob (oid d j)).ver+1) 0,(yP ob d xs (j+1)).2.1++[(oid d j,⟨(ob (oid d j)).ver+1,.box (yP ob d xs (j+1)).1,false⟩)],(yP ob d xs (j+1)).2.2):=rfl
theorem Sf (d:Nat) (j:Nat):yP ob d [] j=([],[],j):=rfl
theorem V1 (d:Nat) (x:X) (r:List X) (j:Nat):yP ob d (x :: r) j=((ofX ob d x j).1 :: (yP ob d r (ofX ob d x j).2.2).1,(ofX ob d x j).2.1++(yP ob d r (ofX ob d x j).2.2).2.1,(yP ob d r (ofX ob d x j).2.2).2.2):=rfl
theorem TX {α:Type} (x:Option α) (f:α→Option XOut):fin E (x.bind f)=x.bind fun y=>fin E (f y):=by unfold fin; rw [Option.bind_assoc]
theorem RU (y:XOut):fin E (some y)=E.wk y:=rfl
theorem QF:fin E none=none:=rfl
theorem Ns (p:Prop) [Decidable p] (x y:Option XOut):fin E (if p then x else y)=if p then fin E x else fin E y:=by split <;> rfl
theorem Ov (x:D):tq (.d x)=true:=rfl
theorem Uf:tq .nil=true:=rfl
theorem V4 (e s n:Nat) (c:Option Nat) (cells:List D) (lk:Bool):tq (.own e s n c cells lk)=true:=rfl
theorem Vh (k:RK) (x:D):tq (.res k x)=true:=rfl
theorem Uq (ps:List Nat) (rs:List RV):oC ps rs (.ret,st)=(Vm.results ps st rs).bind fun x=>(vg st.ob ps).bind fun y=>
   if (zV x.2&&!(x.2.any fun m=>y.2.any (· == m)||ps.any (· == m)))=true then some (.ret x.1 y.1) else none:=rfl
theorem WD (ps:List Nat) (rs:List RV):oC ps rs (.normal,st)=(Vm.results ps st rs).bind fun x=>(vg st.ob ps).bind fun y=>
   if (zV x.2&&!(x.2.any fun m=>y.2.any (· == m)||ps.any (· == m)))=true then some (.ret x.1 y.1) else none:=rfl
theorem Vi (ps:List Nat) (rs:List RV) (x:D):oC ps rs (.panic x,st)=(vg st.ob ps).bind fun y=>some (.pan x y.1):=by
 simp only [oC]; cases vg st.ob ps <;> rfl
theorem Yl (ps:List Nat) (rs:List RV):Vm.results ps st rs=(qp st rs).bind (lK ps st.ob):=rfl
theorem WK:qp st []=some []:=rfl
theorem YG (r:RV) (rs:List RV):qp st (r :: rs)=(r.get st).bind fun a=>(qp st rs).bind fun y=>some (a :: y):=by
 simp only [qp]
 cases r.get st with
 | none=>rfl
 | some a=>cases qp st rs <;> rfl
theorem MR (t:Nat):RV.get ⟨s,ob⟩ (.tmp t)=some (s t):=rfl
def Ve (ob:Nat→Ob) (n:Option Nat) (a:A):Option A:=match a with
 | .adr id ver 0=>(nI (ob id) ver).bind fun cells=>match n with
     | none=>cells[0]?
     | some n=>if n ≤ cells.length then some (.agg (cells.take n)) else none
 | _=>none
theorem NU (t:Nat) (n:Option Nat):RV.get ⟨s,ob⟩ (.cell t n)=Ve ob n (s t):=rfl
theorem Ot (id ver:Nat):Ve ob none (.adr id ver 0)=(nI (ob id) ver).bind fun cells=>cells[0]? :=rfl
theorem O7 (id ver n:Nat):Ve ob (some n) (.adr id ver 0)=(nI (ob id) ver).bind fun cells=>if n ≤ cells.length then some (.agg (cells.take n)) else none:=rfl
theorem V7 (i:Nat):pG [] i=none:=rfl
theorem X9 (p:Nat) (ps:List Nat) (i:Nat):pG (p :: ps) i=if i=p then some 0 else (pG ps i).map (· +1):=rfl
theorem QJ (ps:List Nat) (a:A):lK ps ob [a]=oo ps ob a:=rfl
theorem Qq (ps:List Nat):lK ps ob []=some (.tup [],[]):=rfl
theorem RZ (ps:List Nat) (a b:A) (r:List A):lK ps ob (a :: b :: r)=(wn ps ob (a :: b :: r)).bind fun x=>some (.tup x.1,x.2):=by
 show (wn ps ob (a :: b :: r)).map _=_
 cases wn ps ob (a :: b :: r) <;> rfl
theorem SM (ps:List Nat) (x:D):oo ps ob (.d x)=some (.d x,[]):=rfl
theorem Xt (ps:List Nat):oo ps ob .nil=some (.nil,[]):=rfl
theorem XM (ps:List Nat) (id ver:Nat):oo ps ob (.row id ver)=jx (pG ps id) (ob id) id ver:=by
 show uo ps ob (.row id ver)=_
 rw [Zk]
theorem WF (ps:List Nat) (cs:List A):oo ps ob (.agg cs)=(wn ps ob cs).bind fun x=>some (.agg x.1,x.2):=by
 show (wn ps ob cs).map _=_
 cases wn ps ob cs <;> rfl
theorem MG (ps:List Nat) (x:D):uo ps ob (.d x)=some (.d x,[]):=rfl
theorem SZ (ps:List Nat):uo ps ob .nil=some (.nil,[]):=rfl
theorem Rp (ps:List Nat) (cs:List A):uo ps ob (.agg cs)=(wn ps ob cs).bind fun x=>some (.agg x.1,x.2):=by
 simp only [uo]; cases wn ps ob cs <;> rfl
theorem Tm (ps:List Nat):wn ps ob []=some ([],[]):=rfl
theorem Xo (ps:List Nat) (a:A) (r:List A):wn ps ob (a :: r)=(uo ps ob a).bind fun x=>(wn ps ob r).bind fun y=>some (x.1 :: y.1,x.2++y.2):=by
 simp only [wn]
 cases uo ps ob a with
 | none=>rfl
 | some p=>cases wn ps ob r <;> rfl
theorem XA (v:Nat) (cells:List A) (lk:Bool):nr ob ⟨v,.box cells,lk⟩=if v=1 then qf ob cells else none:=rfl
theorem NQ (x:D):nO ob (.d x)=some (x,[]):=rfl
theorem Vr:nO ob .nil=some (.nils,[]):=rfl
theorem TI (id ver:Nat):nO ob (.row id ver)=fY (ob id) id ver:=rfl
theorem XB:qf ob []=some ([],[]):=rfl
theorem YF (a:A) (r:List A):qf ob (a :: r)=(nO ob a).bind fun p=>(qf ob r).bind fun q=>some (p.1 :: q.1,p.2++q.2):=by
 simp only [qf]
 cases nO ob a with
 | none=>rfl
 | some p=>obtain ⟨x,l⟩:=p; cases qf ob r <;> rfl
theorem K7 (k:IntKind) (n:Int):dA (.int k n)= .d (.int k n):=rfl
theorem NS (b:Bool):dA (.bool b)= .d (.bool b):=rfl
theorem KZ (l:List UInt8):dA (sD l)= .d (sD l):=rfl
theorem JX (f:FuncId):dA (.fn f)= .d (.fn f):=rfl
theorem IT {α:Type} (c:Enc α) (l:List α):dA (zb c l)= .d (zb c l):=rfl
theorem Np:dA (.lst 0 [])= .d (.lst 0 []):=rfl
theorem Jn (n:Int):dA (iD n)= .d (.int .i64 n):=rfl
theorem Ox:dA .nils= .nil:=rfl
theorem OB:dA .nilp= .d .nilp:=rfl
theorem Nu:dA .nilf= .d .nilf:=rfl
theorem OI:dA .nili= .d .nili:=rfl
theorem Qh (t:TypeId) (x:D):dA (.iface t x)= .d (.iface t x):=rfl
theorem Tn (t:TypeId) (x:List D):dA (.ifaceS t x)= .d (.ifaceS t x):=rfl
theorem VZ:D.nils.flat=true:=rfl
theorem aT (ps:List Nat):vg ob ps=(uz ob ps).bind fun y=>if y.2.any (fun m=>ps.any (· == m))=true then none else some y:=rfl
theorem YE:uz ob []=some ([],[]):=rfl
theorem a8 (id:Nat) (r:List Nat):uz ob (id :: r)=(nr ob (ob id)).bind fun x=>(uz ob r).bind fun y=>some (x.1 :: y.1,x.2++y.2):=by
 simp only [uz]
 cases nr ob (ob id) with
 | none=>rfl
 | some p=>simp only [Option.bind_some]; cases uz ob r <;> rfl
theorem Uh:tu ob []=true:=rfl
theorem Wk (id:Nat) (k:KO) (r:List (Nat×KO)):tu ob ((id,k) :: r)=(nt (ob id) k&&tu ob r):=rfl
theorem Tp (i:Nat):enter i []=([],[]):=rfl
theorem WJ (i:Nat) (x:X) (r:List X):enter i (x :: r)=((i,(ofX (fun _=>{}) i x 0).1) :: (enter (i+1) r).1,(ofX (fun _=>{}) i x 0).2.1++(enter (i+1) r).2):=rfl
def eG (ps keep:List Nat) (st:St) (m:List (Nat×Nat)):Option St:=
 if (zV (m.map (·.1))&&zV (m.map (·.2))&&m.all (fun p=>nM m st.ob (st.ob p.1).o)&&ps.all (fun p=>uD m p == some p&&(st.ob p).ver == 1))=true then
  some ⟨zk (keep.map fun n=>(n,tC m st.ob (st.slot n))),zw (m.map fun p=>(p.2,⟨1,pe m st.ob (st.ob p.1).o,(st.ob p.1).leak⟩))⟩ else none
@[congr] theorem Kb {ps keep:List Nat} {st:St} {m m':List (Nat×Nat)} (h:m=m'):eG ps keep st m=eG ps keep st m':=by rw [h]
theorem Nf (ps keep:List Nat):canon ps keep st=eG ps keep st (rR keep st):=rfl
theorem V8 (ps keep:List Nat) (m:List (Nat×Nat)):eG ps keep ⟨s,ob⟩ m=
 if (zV (m.map (·.1))&&zV (m.map (·.2))&&m.all (fun p=>nM m ob (ob p.1).o)&&ps.all (fun p=>uD m p == some p&&(ob p).ver == 1))=true then
  some ⟨zk (keep.map fun n=>(n,tC m ob (s n))),zw (m.map fun p=>(p.2,⟨1,pe m ob (ob p.1).o,(ob p.1).leak⟩))⟩ else none:=rfl
theorem Rh (keep:List Nat):rR keep ⟨s,ob⟩=lF [] (keep.flatMap fun n=>nE ob (oid n 0) (s n)):=rfl
def Pa (ob:Nat→Ob) (x:Ob) (base id ver:Nat):List (Nat×Nat):=match x.o with
 | .box cells=>if x.ver=ver then (id,base) :: tZ ob (base+1) cells else []
 | _=>[]
theorem KY (base:Nat) (x:D):nE ob base (.d x)=[]:=rfl
theorem Sw (base:Nat):nE ob base .nil=[]:=rfl
theorem Wl (base:Nat):nE ob base .undef=[]:=rfl
theorem Nb (base:Nat) (cs:List D):nE ob base (.cp cs)=[]:=rfl
theorem QI (base id ver:Nat):nE ob base (.row id ver)=if (ob id).ver=ver then [(id,base)] else []:=rfl
theorem SL (base id ver o:Nat):nE ob base (.rad id ver o)=[]:=rfl
theorem Sk (base:Nat) (cs:List A):nE ob base (.tup cs)=[]:=rfl
theorem Sp (base id ver o:Nat):nE ob base (.adr id ver o)=Pa ob (ob id) base id ver:=rfl
theorem SN (base:Nat) (cs:List A):nE ob base (.agg cs)=tZ ob (base+1) cs:=rfl
theorem Tc (base id ver v:Nat) (cells:List A) (lk:Bool):Pa ob ⟨v,.box cells,lk⟩ base id ver=if v=ver then (id,base) :: tZ ob (base+1) cells else []:=rfl
theorem ZO (base:Nat):tZ ob base []=[]:=rfl
theorem c9 (base:Nat) (a:A) (r:List A):tZ ob base (a :: r)=me ob base a++tZ ob (base+1) r:=rfl
theorem VI (base:Nat) (x:D):me ob base (.d x)=[]:=rfl
theorem Yj (base:Nat):me ob base .nil=[]:=rfl
theorem Yq (base id ver:Nat):me ob base (.row id ver)=if (ob id).ver=ver then [(id,base)] else []:=rfl
theorem XZ (acc:List (Nat×Nat)):lF acc []=acc:=rfl
theorem Z1 (acc:List (Nat×Nat)) (i j:Nat) (r:List (Nat×Nat)):lF acc ((i,j) :: r)=lF (if (acc.any (fun p=>p.1 == i))=true then acc else acc++[(i,j)]) r:=rfl
theorem Vg (n:Nat):uD [] n=none:=rfl
theorem Xw (i j n:Nat) (r:List (Nat×Nat)):uD ((i,j) :: r) n=if n=i then some j else uD r n:=rfl
def UW (o:Option Nat):A:=match o with | some j=> .row j 1 | none=> .undef
def UI (o:Option Nat) (off:Nat):A:=match o with | some j=> .adr j 1 off | none=> .undef
theorem Rt (j:Nat):UW (some j)= .row j 1:=rfl
theorem SB (j off:Nat):UI (some j) off= .adr j 1 off:=rfl
theorem Ma (m:List (Nat×Nat)) (x:D):tC m ob (.d x)= .d x:=rfl
theorem T1 (m:List (Nat×Nat)):tC m ob .nil= .nil:=rfl
theorem WC (m:List (Nat×Nat)):tC m ob .undef= .undef:=rfl
theorem Oc (m:List (Nat×Nat)) (cs:List D):tC m ob (.cp cs)= .cp cs:=rfl
theorem QT (m:List (Nat×Nat)) (id ver:Nat):tC m ob (.row id ver)=if (ob id).ver=ver then UW (uD m id) else .undef:=rfl
theorem Rg (m:List (Nat×Nat)) (id ver off:Nat):tC m ob (.adr id ver off)=if (ob id).ver=ver then UI (uD m id) off else .undef:=rfl
theorem Qj (m:List (Nat×Nat)) (id ver off:Nat):tC m ob (.rad id ver off)= .undef:=rfl
theorem SX (m:List (Nat×Nat)) (cs:List A):tC m ob (.agg cs)= .agg (qI m ob cs):=rfl
theorem QL (m:List (Nat×Nat)) (cs:List A):tC m ob (.tup cs)= .tup (qI m ob cs):=rfl
theorem UT (m:List (Nat×Nat)):qI m ob []=[]:=rfl
theorem Xr (m:List (Nat×Nat)) (a:A) (r:List A):qI m ob (a :: r)=tC m ob a :: qI m ob r:=rfl
theorem Zc:zV []=true:=rfl
theorem dk (x:Nat) (r:List Nat):zV (x :: r)=(!(r.any (· == x))&&zV r):=rfl
theorem PI {α:Type} (f:α→Bool):List.any [] f=false:=rfl
theorem any_cons {α:Type} (f:α→Bool) (a:α) (l:List α):List.any (a :: l) f=(f a||List.any l f):=rfl
theorem Mi {α β:Type} (f:α→List β):List.flatMap f []=[]:=rfl
theorem NG {α β:Type} (f:α→List β) (a:α) (l:List α):List.flatMap f (a :: l)=f a++List.flatMap f l:=by simp
theorem I4 {α:Type} (a:α) (l:List α):(a :: l)[0]? =some a:=rfl
theorem IY {α:Type} (a:α) (l:List α) (n:Nat):(a :: l)[n+1]? =l[n]? :=rfl
theorem LC {α:Type} (l:List α):l.drop 0=l:=rfl
theorem KW {α:Type} (a:α) (l:List α) (n:Nat):(a :: l).drop (n+1)=l.drop n:=rfl
theorem Nj (f:FuncId) (live:List Nat) (d:Nat) (a:A) (u:Nat×Ob) (us:List (Nat×Ob)) (L:List SOper):yI E live (some d) (.call f) (some (.val a (u :: us))) L k st=gT E live L k { slot:=upd st.slot d a,ob:=za st.ob (u :: us) }:=wh _ _ _ rfl _ _ _ _
theorem Mq (live:List Nat) (d:Nat) (a:A) (u:Nat×Ob) (us:List (Nat×Ob)) (L:List SOper):yI E live (some d) .dyn (some (.val a (u :: us))) L k st=gT E live L k { slot:=upd st.slot d a,ob:=za st.ob (u :: us) }:=wh _ _ _ rfl _ _ _ _
theorem MM (live:List Nat) (d:Nat) (a:A) (u:Nat×Ob) (us:List (Nat×Ob)) (L:List SOper):yI E live (some d) .box (some (.val a (u :: us))) L k st=gT E live L k { slot:=upd st.slot d a,ob:=za st.ob (u :: us) }:=wh _ _ _ rfl _ _ _ _
theorem Qb (z:List A) (live:List Nat) (d:Nat) (a:A) (u:Nat×Ob) (us:List (Nat×Ob)) (L:List SOper):yI E live (some d) (.alloc z) (some (.val a (u :: us))) L k st=gT E live L k { slot:=upd st.slot d a,ob:=za st.ob (u :: us) }:=wh _ _ _ rfl _ _ _ _
theorem Kl (e s l:Nat) (live:List Nat) (d:Nat) (a:A) (u:Nat×Ob) (us:List (Nat×Ob)) (L:List SOper):yI E live (some d) (lit e s l) (some (.val a (u :: us))) L k st=gT E live L k { slot:=upd st.slot d a,ob:=za st.ob (u :: us) }:=wh _ _ _ rfl _ _ _ _
theorem NZ (e s b:Nat) (z:List D) (live:List Nat) (d:Nat) (a:A) (u:Nat×Ob) (us:List (Nat×Ob)) (L:List SOper):yI E live (some d) (.mkS e s b z) (some (.val a (u :: us))) L k st=gT E live L k { slot:=upd st.slot d a,ob:=za st.ob (u :: us) }:=wh _ _ _ rfl _ _ _ _
theorem N8 (e s b:Nat) (live:List Nat) (d:Nat) (a:A) (u:Nat×Ob) (us:List (Nat×Ob)) (L:List SOper):yI E live (some d) (.app e s b) (some (.val a (u :: us))) L k st=gT E live L k { slot:=upd st.slot d a,ob:=za st.ob (u :: us) }:=wh _ _ _ rfl _ _ _ _
theorem O3 (e s b:Nat) (z:List D) (live:List Nat) (d:Nat) (a:A) (u:Nat×Ob) (us:List (Nat×Ob)) (L:List SOper):yI E live (some d) (.appZ e s b z) (some (.val a (u :: us))) L k st=gT E live L k { slot:=upd st.slot d a,ob:=za st.ob (u :: us) }:=wh _ _ _ rfl _ _ _ _
theorem MH (s:Nat) (live:List Nat) (d:Nat) (a:A) (u:Nat×Ob) (us:List (Nat×Ob)) (L:List SOper):yI E live (some d) (.cut s) (some (.val a (u :: us))) L k st=gT E live L k { slot:=upd st.slot d a,ob:=za st.ob (u :: us) }:=wh _ _ _ rfl _ _ _ _
theorem Tg (e s b:Nat) (z:List D):SOp.isSt (.appZ e s b z)=false:=rfl
theorem Sz (s:Nat):SOp.isSt (.cut s)=false:=rfl
theorem OS (e s b:Nat) (z:List D):SOp.quiet (.appZ e s b z)=false:=rfl
theorem MX (s:Nat):SOp.quiet (.cut s)=false:=rfl
theorem Jq (n:Nat) (live:List Nat) (d:Nat) (a:A) (u:Nat×Ob) (us:List (Nat×Ob)) (L:List SOper):yI E live (some d) (.st n) (some (.val a (u :: us))) L k st=gT E live L k { slot:=upd st.slot d a,ob:=za st.ob (u :: us) }:=wh _ _ _ rfl _ _ _ _
theorem KD (n:Nat) (live:List Nat) (a:A) (us:List (Nat×Ob)) (L:List SOper):yI E live none (.st n) (some (.val a us)) L k st=gT E live L k { slot:=st.slot,ob:=za st.ob us }:=ed _ _ rfl _ _ _
theorem TF (f:FuncId):SOp.isSt (.call f)=false:=rfl
theorem RH:SOp.isSt .dyn=false:=rfl
theorem RP:SOp.isSt .box=false:=rfl
theorem X6 (z:List A):SOp.isSt (.alloc z)=false:=rfl
theorem T3 (e s l:Nat):SOp.isSt (lit e s l)=false:=rfl
theorem SV (e s b:Nat) (z:List D):SOp.isSt (.mkS e s b z)=false:=rfl
theorem SR (e s b:Nat):SOp.isSt (.app e s b)=false:=rfl
theorem Pr (n:Nat):SOp.isSt (.st n)=true:=rfl
theorem TY (i v:Nat):xJ (.row i v)=[i]:=rfl
theorem RJ (i v o:Nat):xJ (.adr i v o)=[i]:=rfl
theorem SS (i v o:Nat):xJ (.rad i v o)=[i]:=rfl
theorem N7 (x:D):xJ (.d x)=[]:=rfl
theorem Rn:xJ .nil=[]:=rfl
theorem X5:xJ .undef=[]:=rfl
theorem PN (x:List D):xJ (.cp x)=[]:=rfl
theorem SI (cs:List A):xJ (.agg cs)=cs.flatMap tY:=rfl
theorem RQ (cs:List A):xJ (.tup cs)=cs.flatMap tY:=rfl
theorem VM (i v:Nat):tY (.row i v)=[i]:=rfl
theorem UU (i v o:Nat):tY (.adr i v o)=[i]:=rfl
theorem PJ (x:D):tY (.d x)=[]:=rfl
theorem Uk:tY .nil=[]:=rfl
theorem Z2 (op:SOp):v8 op ob []=[]:=rfl
theorem ZB (op:SOp) (i:Nat) (x:Ob) (r:List (Nat×Ob)):v8 op ob ((i,x) :: r)=if (!op.isSt&&x.leak&&x.ver == (ob i).ver)=true then v8 op ob r else i :: v8 op ob r:=rfl
end
section
variable {Γ:Ctx} {ob:Nat→Ob} {d:Nat}
theorem Ia (id ver off:Nat):eval Γ ob d (.ld none) [.adr id ver off]=(nI (ob id) ver).bind fun cells=>(cells[off]?).bind fun a=>some (.val a []):=rfl
theorem MI (n id ver off:Nat):eval Γ ob d (.ld (some n)) [.adr id ver off]=(nI (ob id) ver).bind fun cells=>if off+n ≤ cells.length then some (.val (.agg ((cells.drop off).take n)) []) else none:=rfl
theorem J2 (off id ver o:Nat):eval Γ ob d (.fa off) [.adr id ver o]=(nI (ob id) ver).bind fun _=>some (.val (.adr id ver (o+off)) []):=rfl
theorem JD (n id ver off:Nat) (a:A):eval Γ ob d (.st n) [.adr id ver off,a]=(nI (ob id) ver).bind fun cells=>
   if off+n ≤ cells.length∧(cellsOf a).length=n∧(cellsOf a).all one=true then
    some (.val .undef [(id,⟨(ob id).ver,.box (cells.take off++cellsOf a++cells.drop (off+n)),(ob id).leak⟩)]) else none:=rfl
theorem TT (id ver off:Nat):eval Γ ob d .nilck [.adr id ver off]=(nI (ob id) ver).bind fun _=>some (.val (.adr id ver off) []):=rfl
theorem Kc (a:A):eval Γ ob d .box [a]=if (cellsOf a).all one=true then some (.val (.adr (oid d 0) ((ob (oid d 0)).ver+1) 0) [(oid d 0,⟨(ob (oid d 0)).ver+1,.box (cellsOf a),false⟩)]) else none:=rfl
theorem Rq (cells:List A):eval Γ ob d (.alloc cells) []=if cells.all one=true then some (.val (.adr (oid d 0) ((ob (oid d 0)).ver+1) 0) [(oid d 0,⟨(ob (oid d 0)).ver+1,.box cells,false⟩)]) else none:=rfl
theorem Kn (zero:List A) (parts:List (Nat×Nat)) (as:List A):eval Γ ob d (.bld zero parts) as=(nX zero parts as).bind fun cs=>some (.val (.agg cs) []):=rfl
theorem Ka (off:Nat) (cs:List A):eval Γ ob d (.fld off none) [.agg cs]=(cs[off]?).bind fun a=>some (.val a []):=rfl
theorem PQ (off n:Nat) (cs:List A):eval Γ ob d (.fld off (some n)) [.agg cs]=if off+n ≤ cs.length then some (.val (.agg ((cs.drop off).take n)) []) else none:=rfl
theorem Mo (i:Nat) (cs:List A):eval Γ ob d (.ext i) [.tup cs]=(cs[i]?).bind fun a=>some (.val a []):=rfl
theorem MJ (k k':IntKind) (n:Int):eval Γ ob d (.cvt k) [.d (.int k' n)]=some (.val (.d (.int k (k.wrap n))) []):=rfl
theorem Ib (max:Bool) (k:IntKind) (a b:Int):eval Γ ob d (.mm max) [.d (.int k a),.d (.int k b)]=some (.val (.d (.int k (if max=true then (if a < b then b else a) else (if b < a then b else a)))) []):=by simp [eval,ok]
theorem KF (k:IntKind) (a b:Int):eval Γ ob d (.bin .quo) [.d (.int k a),.d (.int k b)]=if b=0 then none else some (.val (.d (.int k (k.wrap (a.tdiv b)))) []):=by
 simp only [eval,wC,vM,ok,if_true]; split <;> rfl
theorem Lc (k:IntKind) (a b:Int):eval Γ ob d (.bin .rem) [.d (.int k a),.d (.int k b)]=if b=0 then none else some (.val (.d (.int k (a.tmod b))) []):=by
 simp only [eval,wC,vM,ok,if_true]; split <;> rfl
theorem Oh (t:Nat) (x:D):eval Γ ob d .pan [.d (.iface t x)]=some (.pan (.iface t x) []):=rfl
theorem Nc (t:Nat) (xs:List D):eval Γ ob d .pan [.d (.ifaceS t xs)]=some (.pan (.ifaceS t xs) []):=rfl
theorem Kp (f:FuncId):eval Γ ob d (.mkF f) []=some (.val (.d (.fn f)) []):=rfl
theorem Mz (t:TypeId) (x:D):eval Γ ob d (.mkI t) [.d x]=some (.val (.d (.iface t x)) []):=rfl
theorem P3 (t:TypeId) (cs:List A):eval Γ ob d (.mkI t) [.agg cs]=(yp ob cs).bind fun p=>some (.val (.d (.ifaceS t p.1)) (zo ob p.2)):=rfl
theorem OW (e size len:Nat) (parts:List (Nat×Nat)) (as:List A):eval Γ ob d (.bldS e size len parts) as=
  if parts=(List.range len).map (fun i=>(i * size,size))∧as.length=len∧(as.all fun a=>decide ((cellsOf a).length=size))=true then
   (yp ob (as.flatMap cellsOf)).bind fun p=>some (.val (.row (oid d 0) ((ob (oid d 0)).ver+1)) (zo ob p.2++[(oid d 0,⟨(ob (oid d 0)).ver+1,.row e size len (some len) p.1,false⟩)])) else none:=by
 simp only [eval]; rfl
def eU (e size len:Nat) (xs:List D):O:= .row e size len (some len) xs
def YS (e size n:Nat) (cap:Nat) (zero:List D):O:= .row e size n (some cap) (List.replicate n zero).flatten
theorem LT (e size len:Nat) (as:List A):eval Γ ob d (lit e size len) as=
  if as.length=len∧(as.all fun a=>decide ((cellsOf a).length=size))=true then
   (yp ob (as.flatMap cellsOf)).bind fun p=>some (.val (.row (oid d 0) ((ob (oid d 0)).ver+1)) (zo ob p.2++[(oid d 0,⟨(ob (oid d 0)).ver+1,eU e size len p.1,false⟩)])) else none:=by
 unfold lit eU
 rw [OW]
 by_cases h:as.length=len∧(as.all fun a=>decide ((cellsOf a).length=size))=true
 ·rw [if_pos h,if_pos ⟨rfl,h.1,h.2⟩]
 ·rw [if_neg h,if_neg (fun q=>h q.2)]
def j3 (bytes:Nat) (l c:Int):Prop:=0 ≤ l∧l ≤ c∧(bytes:Int) * c ≤ va∧c ≤ 9223372036854775807
instance (b:Nat) (l c:Int):Decidable (j3 b l c):=by unfold j3; infer_instance
theorem LZ (e size bytes:Nat) (zero:List D) (k k':IntKind) (l c:Int):eval Γ ob d (.mkS e size bytes zero) [.d (.int k l),.d (.int k' c)]=
  if j3 bytes l c then if zero.length=size∧0 < size then
   some (.val (.row (oid d 0) ((ob (oid d 0)).ver+1)) [(oid d 0,⟨(ob (oid d 0)).ver+1,YS e size l.toNat c.toNat zero,false⟩)]) else none else none:=by
 by_cases h:j3 bytes l c
 ·rw [if_pos h]
  by_cases h':zero.length=size∧0 < size
  ·rw [if_pos h']
   exact if_pos ⟨h.1,h.2.1,h.2.2.1,h.2.2.2,h'.1,h'.2⟩
  ·rw [if_neg h']
   exact if_neg (fun q=>h' ⟨q.2.2.2.2.1,q.2.2.2.2.2⟩)
 ·rw [if_neg h]
  exact if_neg (fun q=>h ⟨q.1,q.2.1,q.2.2.1,q.2.2.2.1⟩)
theorem Oq (a b:List UInt8):eval Γ ob d (.bin .add) [.d (sD a),.d (sD b)]=if ou (a++b).length then some (.val (.d (sD (a++b))) []) else none:=by
 simp only [eval,wC,p7,sD,ou,List.length_append]
 have h1:(ByteArray.mk a.toArray).size=a.length:=rfl
 have h2:(ByteArray.mk b.toArray).size=b.length:=rfl
 rw [h1,h2]
 split
 ·simp only [Option.bind_some,ok]
  congr 5
 ·rfl
theorem P7 (a b:List UInt8):eval Γ ob d (.bin .eql) [.d (sD a),.d (sD b)]=some (.val (.d (.bool (decide (a=b)))) []):=by
 simp only [eval,wC,p7,sD,mh,Option.bind_some,ok]
 congr 4
 exact (Bool.beq_eq_decide_eq a b)
theorem PZ (a b:List UInt8):eval Γ ob d (.bin .neq) [.d (sD a),.d (sD b)]=some (.val (.d (.bool (!decide (a=b)))) []):=by
 simp only [eval,wC,p7,sD,mh,Option.bind_some,ok]
 congr 5
 exact (Bool.beq_eq_decide_eq a b)
def wL (a b:List UInt8):Bool:=Op.bytesLess a b
theorem NH (a b:List UInt8):eval Γ ob d (.bin .lss) [.d (sD a),.d (sD b)]=some (.val (.d (.bool (wL a b))) []):=by
 simp only [eval,wC,p7,sD,mh,Option.bind_some,ok,wL]
theorem Oz (a b:List UInt8):eval Γ ob d (.bin .geq) [.d (sD a),.d (sD b)]=some (.val (.d (.bool (!wL a b))) []):=by
 simp only [eval,wC,p7,sD,mh,Option.bind_some,ok,wL]
theorem Pz (a b:List UInt8):eval Γ ob d (.bin .gtr) [.d (sD a),.d (sD b)]=some (.val (.d (.bool (!(wL a b||decide (a=b))))) []):=by
 simp only [eval,wC,p7,sD,mh,Option.bind_some,ok,wL]
 congr 6
 exact (Bool.beq_eq_decide_eq a b)
theorem TE (z:List A):nX z [] []=some z:=rfl
theorem XD (z:List A) (off size:Nat) (ps:List (Nat×Nat)) (a:A) (r:List A):nX z ((off,size) :: ps) (a :: r)=
  if (cellsOf a).length=size∧off+size ≤ z.length∧(cellsOf a).all one=true then nX (z.take off++cellsOf a++z.drop (off+size)) ps r else none:=rfl
theorem YI (i v:Nat):cellsOf (.row i v)=[.row i v]:=rfl
theorem ZZ:cellsOf .nil=[.nil]:=rfl
theorem Yx (i v o:Nat):cellsOf (.adr i v o)=[.adr i v o]:=rfl
theorem MK (xs:List D):eval Γ ob d (.fa 0) [.cp xs]=some (.val (.cp xs) []):=by simp [eval,nJ,ok]
theorem Lf (a:D) (xs:List D):eval Γ ob d (.fa 1) [.cp (a :: xs)]=some (.val (.cp xs) []):=by simp [eval,nJ,ok]
theorem KQ (a b:D) (xs:List D):eval Γ ob d (.fa 2) [.cp (a :: b :: xs)]=some (.val (.cp xs) []):=by simp [eval,nJ,ok]
theorem LV (a b c:D) (xs:List D):eval Γ ob d (.fa 3) [.cp (a :: b :: c :: xs)]=some (.val (.cp xs) []):=by simp [eval,nJ,ok]
theorem K6 (a b c e:D) (xs:List D):eval Γ ob d (.fa 4) [.cp (a :: b :: c :: e :: xs)]=some (.val (.cp xs) []):=by simp [eval,nJ,ok]
theorem PD (a:D) (xs:List D):eval Γ ob d (.ld (some 1)) [.cp (a :: xs)]=some (.val (.agg [.d a]) []):=by simp [eval,qL,ok]
theorem PB (a b:D) (xs:List D):eval Γ ob d (.ld (some 2)) [.cp (a :: b :: xs)]=some (.val (.agg [.d a,.d b]) []):=by simp [eval,qL,ok]
theorem Og (a b c:D) (xs:List D):eval Γ ob d (.ld (some 3)) [.cp (a :: b :: c :: xs)]=some (.val (.agg [.d a,.d b,.d c]) []):=by simp [eval,qL,ok]
theorem PT (a b c e:D) (xs:List D):eval Γ ob d (.ld (some 4)) [.cp (a :: b :: c :: e :: xs)]=some (.val (.agg [.d a,.d b,.d c,.d e]) []):=by simp [eval,qL,ok]
theorem LE (a b c e f:D) (xs:List D):eval Γ ob d (.fa 5) [.cp (a :: b :: c :: e :: f :: xs)]=some (.val (.cp xs) []):=by simp [eval,nJ,ok]
theorem Nq (a b c e f:D) (xs:List D):eval Γ ob d (.ld (some 5)) [.cp (a :: b :: c :: e :: f :: xs)]=some (.val (.agg [.d a,.d b,.d c,.d e,.d f]) []):=by simp [eval,qL,ok]
theorem NC (a b c e f g:D) (xs:List D):eval Γ ob d (.ld (some 6)) [.cp (a :: b :: c :: e :: f :: g :: xs)]=some (.val (.agg [.d a,.d b,.d c,.d e,.d f,.d g]) []):=by simp [eval,qL,ok]
theorem Tq (neg:Bool):eval Γ ob d (.inil neg) [.d .nili]=some (.val (.d (.bool !neg)) []):=rfl
theorem Ux (neg:Bool) (t:TypeId) (x:D):eval Γ ob d (.inil neg) [.d (.iface t x)]=some (.val (.d (.bool neg)) []):=rfl
theorem TA (neg:Bool) (t:TypeId) (xs:List D):eval Γ ob d (.inil neg) [.d (.ifaceS t xs)]=some (.val (.d (.bool neg)) []):=rfl
theorem My (t u:TypeId) (x:D):eval Γ ob d (.ta t) [.d (.iface u x)]=if u=t then some (.val (.tup [.d x,.d (.bool true)]) []) else none:=rfl
theorem Ly (t u:TypeId) (xs:List D):eval Γ ob d (.ta t) [.d (.ifaceS u xs)]=if u=t then some (.val (.tup [.agg (xs.map .d),.d (.bool true)]) []) else none:=rfl
theorem KI (n size id ver o:Nat) (k:IntKind) (i:Int):eval Γ ob d (.iaa n size) [.adr id ver o,.d (.int k i)]=
  (nI (ob id) ver).bind fun _=>if 0 ≤ i∧i < (n:Int) then some (.val (.adr id ver (o+i.toNat * size)) []) else none:=rfl
theorem K8 (n size:Nat) (cs:List A) (k:IntKind) (i:Int):eval Γ ob d (.ixa n size none) [.agg cs,.d (.int k i)]=
  if 0 ≤ i∧i < (n:Int) then (cs[i.toNat * size]?).bind fun a=>some (.val a []) else none:=rfl
def tab {α:Type}:List α→Nat→Nat→Option α
 | [],_,_=>none
 | a :: l,n,j=>if n=j then some a else tab l n (j+1)
theorem OY {α:Type} (n j:Nat):tab ([]:List α) n j=none:=rfl
theorem TV {α:Type} (a:α) (l:List α) (n j:Nat):tab (a :: l) n j=if n=j then some a else tab l n (j+1):=rfl
theorem dI {α:Type}:∀ (l:List α) (n j:Nat),tab l (n+j) j=l[n]?
 | [],n,j=>by simp [tab]
 | a :: l,0,j=>by simp [tab]
 | a :: l,n+1,j=>by
   simp only [tab,List.getElem?_cons_succ]
   rw [if_neg (by omega),← dI l n (j+1)]
   congr 1; omega
theorem M9 {α:Type} (a:α) (l:List α) (i:Int) (s:Nat):(a :: l)[i.toNat * s]? =tab (a :: l) (i.toNat * s) 0:=(dI (a :: l) (i.toNat * s) 0).symm
theorem NV {α:Type} (a:α) (l:List α) (i:Int):(a :: l)[i.toNat]? =tab (a :: l) i.toNat 0:=(dI (a :: l) i.toNat 0).symm
theorem OG {E:En} {k:List KJ} {st:St} (b:Cd) (id ver off:Nat):gFz E b k st (.adr id ver off)=(nI (st.ob id) ver).bind fun cells=>(yp st.ob cells).bind fun p=>
  G E b k { slot:=st.slot,ob:=za st.ob (zo st.ob p.2++[(id,⟨(st.ob id).ver,.box (p.1.map dA),(st.ob id).leak⟩)]) }:=rfl
def fh (a:A) (p:Prop) [Decidable p] (q:IntKind) (x:Int):A:=match a with
 | .d (.int q' y)=>if q'=q then .d (.int q (if p then x else y)) else if p then .d (.int q x) else a
 | _=>if p then .d (.int q x) else a
theorem dH (a:A) (p:Prop) [Decidable p] (q:IntKind) (x:Int):fh a p q x=if p then .d (.int q x) else a:=by
 unfold fh
 split
 ·split
  ·rename_i e; subst e; split <;> rfl
  ·rfl
 ·rfl
theorem bU (y:Int) (p:Prop) [Decidable p] (q:IntKind) (x:Int):fh (.d (.int q y)) p q x= .d (.int q (if p then x else y)):=by
 unfold fh; simp
theorem HI (y:Int) (p:Prop) [Decidable p] (x:Int):fh (.d (iD y)) p .i64 x= .d (.int .i64 (if p then x else y)):=bU y p .i64 x
theorem JF (n:Int):A.d (iD n)= .d (.int .i64 n):=rfl
def gM:List A→Nat→Nat→IntKind→Int→List A
 | [],_,_,_,_=>[]
 | a :: l,k,j,q,x=>fh a (j=k) q x :: gM l (k+1) j q x
theorem SJ (k j:Nat) (q:IntKind) (x:Int):gM [] k j q x=[]:=rfl
theorem mY (a:A) (l:List A) (k j:Nat) (q:IntKind) (x:Int):gM (a :: l) k j q x=fh a (j=k) q x :: gM l (k+1) j q x:=rfl
theorem cE:∀ (l:List A) (k j:Nat) (q:IntKind) (x:Int),j < k→gM l k j q x=l
 | [],_,_,_,_,_=>rfl
 | a :: l,k,j,q,x,h=>by rw [mY,dH,if_neg (by omega),cE l (k+1) j q x (by omega)]
theorem Xf:∀ (l:List A) (k j:Nat) (q:IntKind) (x:Int),j < l.length→gM l k (k+j) q x=l.take j++[.d (.int q x)]++l.drop (j+1)
 | [],k,j,q,x,h=>by simp at h
 | a :: l,k,0,q,x,h=>by rw [mY,dH,if_pos (by omega),cE l (k+1) (k+0) q x (by omega)]; simp
 | a :: l,k,j+1,q,x,h=>by
   rw [mY,dH,if_neg (by omega),show k+(j+1)=k+1+j by omega,Xf l (k+1) j q x (by simpa using h)]
   simp
theorem Me (i:Int) (s id v:Nat) (q:IntKind) (x:Int) (lk:Bool) (cells:List A):
  (if i.toNat * s+1 ≤ cells.length∧(cellsOf (.d (.int q x))).length=1∧(cellsOf (.d (.int q x))).all one=true then
    some (Out.val .undef [(id,⟨v,.box (cells.take (i.toNat * s)++cellsOf (.d (.int q x))++cells.drop (i.toNat * s+1)),lk⟩)]) else none)
  =if i.toNat * s < cells.length then some (Out.val .undef [(id,⟨v,.box (gM cells 0 (i.toNat * s) q x),lk⟩)]) else none:=by
 have e1:(cellsOf (.d (.int q x))).length=1∧(cellsOf (.d (.int q x))).all one=true:=⟨rfl,rfl⟩
 by_cases h:i.toNat * s < cells.length
 ·rw [if_pos ⟨by omega,e1⟩,if_pos h]
  have:=Xf cells 0 (i.toNat * s) q x h
  rw [Nat.zero_add] at this
  rw [this]; rfl
 ·rw [if_neg (fun p=>by omega),if_neg h]
def stB (x:Option (List D×List Nat)):O:=match x with
 | some (xs,_)=> .box (xs.map dA)
 | none=> .dead
@[congr] theorem Iu {x x':Option (List D×List Nat)} (h:x=x'):stB x=stB x':=by rw [h]
theorem Qs (xs:List D) (l:List Nat):stB (some (xs,l))= .box (xs.map dA):=rfl
theorem XL (cells:List A):s6 ob (.box cells)=stB (yp ob cells):=by
 simp only [s6]
 cases yp ob cells <;> rfl
theorem RY {α:Type} (c:Enc α) (e:Nat) (cap:Option Nat) (l:List α):s6 ob (yl c e cap l)= .dead:=rfl
theorem XQ:jU [] ob=[]:=rfl
theorem Ym (id:Nat) (r:List Nat):jU (id :: r) ob=(id,⟨(ob id).ver,s6 ob (ob id).o,false⟩) :: jU r ob:=rfl
@[congr] theorem Jw {E:En} {ids da:List Nat} {x:D} {st st':St} (h:st=st'):Zo E ids da x st=Zo E ids da x st':=by rw [h]
@[congr] theorem Hz {E:En} {b:Cd} {st st':St} (h:st=st'):gB E b st=gB E b st':=by rw [h]
end
end Go.Vm
