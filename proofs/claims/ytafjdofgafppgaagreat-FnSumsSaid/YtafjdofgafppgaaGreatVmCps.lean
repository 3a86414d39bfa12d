/- Running the abstract machine by rewriting, to the end of the call: every test that is open stays an 'if'. -/
import Derived.Test.YtafjdofgafppgaaGreatVmEv
set_option linter.unusedSectionVars false
set_option linter.unusedSimpArgs false
set_option linter.unusedVariables false
namespace Go.Vm
inductive KJ where
 | c (x:Cd)
 | b (id:Nat)
 | v (live:List Nat)
 | l (keep:List Nat) (b:Cd) (m:Nat)
 | df (da keep:List Nat) (b:Cd)
structure En where
 Γ:Ctx
 ps:List Nat
 pl:List Nat
 ck:List (Nat×KO)
 n:Nat
 rs:List RV
 dd:Option (List Nat×List Nat)
 fd:D→List X→Option (List (List D))
 wk:XOut→Option XOut
def En.behind (E:En) (ids da:List Nat):En:={ E with ps:=E.ps++ids,dd:=some (ids,da) }
def EF (E:En) (dd:Option (List Nat×List Nat)) (p:Ex×St):Option XOut:=match dd with
 | none=>jD E.pl E.ck E.rs p
 | some (ids,da)=>W5 E.Γ E.fd E.pl ids da E.ck E.rs p
def yQ (E:En):List KJ→Ex×St→Option XOut
 | [],p=>(EF E E.dd p).bind E.wk
 | .c x :: k,(.normal,st)=>(run E.Γ E.ps E.n x st).bind (yQ E k)
 | .c _ :: k,(e,st)=>yQ E k (e,st)
 | .b id :: k,(.exit j,st)=>if j=id then yQ E k (.normal,st) else yQ E k (.exit j,st)
 | .b _ :: k,(e,st)=>yQ E k (e,st)
 | .v live :: k,(.normal,st)=>yQ E k (.normal,st.only live)
 | .v _ :: k,(e,st)=>yQ E k (e,st)
 | .l keep b m :: k,(.normal,st)=>(Pz E.Γ E.ps E.n keep b m st).bind (yQ E k)
 | .l .. :: k,(e,st)=>yQ E k (e,st)
 | .df da keep b :: _,(.normal,st)=>(kz st.ob (da.map st.slot)).bind fun ids=>(canon (E.ps++ids) keep st).bind fun st=>
     (run E.Γ (E.ps++ids) E.n b st).bind fun p=>(W5 E.Γ E.fd E.pl ids da E.ck E.rs p).bind E.wk
 | .df .. :: k,(e,st)=>yQ E k (e,st)
def fin (E:En) (x:Option XOut):Option XOut:=x.bind E.wk
def G (E:En) (c:Cd) (k:List KJ) (st:St):Option XOut:=(run E.Γ E.ps E.n c st).bind (yQ E k)
def nG (E:En) (l:List SOper) (k:List KJ) (st:St):Option XOut:=(lf E.Γ l st).bind (yQ E k)
def sp (E:En) (d:Option Nat) (x:Option Out) (l:List SOper) (k:List KJ) (st:St):Option XOut:=x.bind fun
 | .val a us=>nG E l k (({ st with ob:=zq st.ob us }:St).put d a)
 | .pan x us=>yQ E k (.panic x,{ st with ob:=zq st.ob us })
def gSt (E:En) (k:List KJ) (e:Ex) (st:St):Option XOut:=yQ E k (e,st)
def gL (E:En) (keep:List Nat) (b:Cd) (m:Nat) (k:List KJ) (st:St):Option XOut:=(Pz E.Γ E.ps E.n keep b m st).bind (yQ E k)
def gH (E:En) (keep:List Nat) (b:Cd) (k:List KJ):Nat→St→Option XOut
 | 0,_=>none
 | m+1,st=>G E b (.l keep b m :: k) st
def gC (E:En) (keep:List Nat) (b:Cd) (m:Nat) (k:List KJ) (st:Option St):Option XOut:=match st with
 | some st=>gH E keep b k m st
 | none=>none
def cF (E:En) (live:List Nat) (k:List KJ):Ex×St→Option XOut
 | (.normal,st')=>yQ E k (.normal,st'.only live)
 | (e,st')=>yQ E k (e,st'.forget E.ps)
def gT (E:En) (live:List Nat) (l:List SOper) (k:List KJ) (st:St):Option XOut:=(qZ E.Γ E.ps.isEmpty l st).bind (cF E live k)
def xE (E:En) (live:List Nat) (d:Option Nat) (op:SOp) (x:Option Out) (l:List SOper) (k:List KJ) (st:St):Option XOut:=x.bind fun
 | .val a us=>if op.quiet&&!us.isEmpty then none else gT E live l k (({ st with ob:=zq st.ob us }:St).put d a)
 | .pan x us=>cF E live k (.panic x,{ st with ob:=zq st.ob us })
def gIf {α:Type} (c:Option Bool) (x y:Option α):Option α:=match c with
 | some true=>x
 | some false=>y
 | none=>none
def br {α:Type} (c:Bool) (x y:Option α):Option α:=if c=true then x else y
section
variable {E:En} {k:List KJ} {st:St}
theorem Ek:G E .skip k st=yQ E k (.normal,st):=rfl
theorem BB:G E .ret k st=yQ E k (.ret,st):=rfl
theorem Ec (id:Nat):G E (.exit id) k st=yQ E k (.exit id,st):=rfl
theorem AK (a b:Cd):G E (sq a b) k st=G E a (.c b :: k) st:=by
 unfold G sq
 simp only [run]
 cases h:run E.Γ E.ps E.n a st with
 | none=>rfl
 | some p=>obtain ⟨e,s⟩:=p; cases e <;> simp [yQ]
theorem Hv (id:Nat) (b:Cd):G E (.block id b) k st=G E b (.b id :: k) st:=by
 unfold G
 simp only [run]
 cases h:run E.Γ E.ps E.n b st with
 | none=>rfl
 | some p=>
   obtain ⟨e,s⟩:=p
   cases e <;> simp [yQ]
   split <;> simp_all [yQ]
theorem Gm (b:Cd):G E (.scope b) k st=G E b k st:=by
 unfold G; simp only [run]
def gFz (E:En) (b:Cd) (k:List KJ) (st:St):A→Option XOut
 | .adr id ver _=>(ui st.ob id ver).bind fun cells=>(xm st.ob cells).bind fun p=>
     G E b k { slot:=st.slot,ob:=zq st.ob (zX st.ob p.2++[(id,{ st.ob id with o:= .box (p.1.map dA) })]) }
 | _=>G E b k st
theorem Bk (m:Nat) (b:Cd):G E (.frz m b) k st=gFz E b k st (st.slot m):=by
 unfold G gFz
 simp only [run,St.frz]
 cases st.slot m <;> try rfl
 rename_i id ver off
 dsimp only
 cases h:ui st.ob id ver with
 | none=>rfl
 | some cells=>
   simp only [Option.bind_some]
   cases h2:xm st.ob cells with
   | none=>rfl
   | some p=>rfl
theorem EI (c:SA) (x y:Cd):G E (.cond c x y) k st=gIf (OQ (st.get c)) (G E x k st) (G E y k st):=by
 unfold G
 simp only [run]
 cases hc:st.get c with
 | d z=>
   cases z with
   | bool b=>cases b <;> simp [OQ,gIf]
   | _=>rfl
 | _=>rfl
theorem G_r (live:List Nat) (l:List SOper):G E (r live l) k st=nG E l (.v live :: k) st:=by
 unfold G nG r
 simp only [run]
 cases h:lf E.Γ l st with
 | none=>rfl
 | some p=>obtain ⟨e,s⟩:=p; cases e <;> simp [yQ]
theorem AE (watch live:List Nat) (l:List SOper):G E (rd watch live l) k st=gT E live l k st:=by
 unfold G gT rd
 simp only [run]
 cases h:qZ E.Γ E.ps.isEmpty l st with
 | none=>rfl
 | some p=>
   obtain ⟨e,s⟩:=p
   cases e <;> rfl
theorem Ej (keep:List Nat) (b:Cd):G E (.loop keep b) k st=gL E keep b E.n k st:=rfl
theorem BL (keep:List Nat) (b:Cd) (m:Nat):gL E keep b m k st=gC E keep b m k (canon E.ps keep st):=by
 unfold gL Pz gC
 cases m with
 | zero=>cases canon E.ps keep st <;> rfl
 | succ m=>
   simp only [Vl]
   cases canon E.ps keep st with
   | none=>rfl
   | some s=>
     simp only [Option.bind_some,gH,G]
     cases run E.Γ E.ps E.n b s with
     | none=>rfl
     | some p=>obtain ⟨e,s'⟩:=p; cases e <;> rfl
theorem QO (keep:List Nat) (b:Cd) (m:Nat):gC E keep b m k (some st)=gH E keep b k m st:=rfl
theorem zaJ (keep:List Nat) (b:Cd):gH E keep b k 0 st=none:=rfl
theorem xb (keep:List Nat) (b:Cd) (m:Nat):gH E keep b k (m+1) st=G E b (.l keep b m :: k) st:=rfl
theorem LJ:nG E [] k st=yQ E k (.normal,st):=rfl
theorem Uz (x:SOper) (l:List SOper) (h:x.guard=none):
  nG E (x :: l) k st=sp E x.dst (eval E.Γ st.ob (x.dst.getD 0) x.op (x.args.map st.get)) l k st:=by
 unfold nG sp
 simp only [lf,step,h]
 cases eval E.Γ st.ob (x.dst.getD 0) x.op (x.args.map st.get) with
 | none=>rfl
 | some p=>cases p <;> rfl
theorem Ez (d:Nat) (op:SOp) (as:List SA) (l:List SOper):
  nG E (o d op as :: l) k st=sp E (some d) (eval E.Γ st.ob d op (as.map st.get)) l k st:=Uz _ _ rfl
theorem Cu (op:SOp) (as:List SA) (l:List SOper):
  nG E (e op as :: l) k st=sp E none (eval E.Γ st.ob 0 op (as.map st.get)) l k st:=Uz _ _ rfl
def gGd (a:A) (w:Bool) (x y z:Option XOut):Option XOut:=match a with
 | .d (.bool b)=>if b=w then x else y
 | .tup []=>z
 | _=>none
@[congr] theorem Ac {a a':A} {w:Bool} {x y z:Option XOut} (h:a=a'):gGd a w x y z=gGd a' w x y z:=by rw [h]
theorem IP (b:Bool) (x y z:Option XOut):gGd (.d (.bool b)) true x y z=gIf (some b) x y:=by cases b <;> rfl
theorem IY (b:Bool) (x y z:Option XOut):gGd (.d (.bool b)) false x y z=gIf (some b) y x:=by cases b <;> rfl
theorem IQ (w:Bool) (x y z:Option XOut):gGd (.tup []) w x y z=z:=rfl
theorem Mu {α:Type} {s:Nat→α} {c:Nat} {a:α} (h:s c=a):upd s c a=s:=by
 funext n
 unfold upd
 split
 ·rename_i e; subst e; exact h.symm
 ·rfl
theorem SU {s:Nat→A} {c:Nat} {w:Bool} (f g:(Nat→A)→Option XOut) {r:Option XOut}
  (h1:s c= .d (.bool w)→r=f s) (h2:(∃ b,s c= .d (.bool b)∧b ≠ w)→r=g s) (h3:s c= .tup []→r=g s) (h4:vC (s c) w=none→r=none):
  r=gGd (s c) w (f (upd s c (.d (.bool w)))) (g (upd s c (.d (.bool !w)))) (g s):=by
 unfold gGd
 split
 ·rename_i b hb
  by_cases e:b=w
  ·subst e
   rw [if_pos rfl,Mu hb]; exact h1 hb
  ·have:b=!w:=by cases b <;> cases w <;> first | rfl | exact absurd rfl e
   rw [if_neg e,h2 ⟨b,hb,e⟩,Mu (by rw [hb,this])]
 ·rename_i hb; exact h3 hb
 ·rename_i a h5 h6
  refine h4 ?_
  unfold vC
  split
  ·rename_i b hb; exact absurd hb (h5 b)
  ·rename_i hb; exact absurd hb h6
  ·rfl
theorem Eg (s:Nat→A) (ob:Nat→Ob) (c:Nat) (w:Bool) (d:Nat) (op:SOp) (as:List SA) (l:List SOper):
  nG E (g c w d op as :: l) k ⟨s,ob⟩=gGd (s c) w (sp E (some d) (eval E.Γ ob d op (as.map (St.get ⟨upd s c (.d (.bool w)),ob⟩))) l k ⟨upd s c (.d (.bool w)),ob⟩)
   (nG E l k ⟨upd (upd s c (.d (.bool !w))) d (.tup []),ob⟩) (nG E l k ⟨upd s d (.tup []),ob⟩):=by
 have hst:step E.Γ (g c w d op as) ⟨s,ob⟩=match vC (s c) w with
   | some true=>(eval E.Γ ob d op (as.map (St.get ⟨s,ob⟩))).map (fun
     | Out.val a us=>(Ex.normal,({ slot:=s,ob:=zq ob us }:St).put (some d) a)
     | .pan x us=>(.panic x,{ slot:=s,ob:=zq ob us }))
   | some false=>some (.normal,⟨upd s d (.tup []),ob⟩)
   | none=>none:=rfl
 refine SU (fun s=>sp E (some d) (eval E.Γ ob d op (as.map (St.get ⟨s,ob⟩))) l k ⟨s,ob⟩) (fun s=>nG E l k ⟨upd s d (.tup []),ob⟩) ?_ ?_ ?_ ?_
 ·intro h
  unfold nG sp
  simp only [lf,hst,h,vC,beq_self_eq_true]
  cases eval E.Γ ob d op (as.map (St.get ⟨s,ob⟩)) with
  | none=>rfl
  | some p=>cases p <;> rfl
 ·rintro ⟨b,h,hne⟩
  have:(b == w)=false:=by simpa using hne
  unfold nG
  simp only [lf,hst,h,vC,this]
  rfl
 ·intro h
  unfold nG
  simp only [lf,hst,h,vC]
  rfl
 ·intro h
  unfold nG
  simp only [lf,hst,h]
  rfl
theorem MF (d:Nat) (a:A) (l:List SOper):sp E (some d) (some (.val a [])) l k st=nG E l k { slot:=upd st.slot d a,ob:=st.ob }:=rfl
theorem J3 (d:Nat) (a:A) (u:Nat×Ob) (us:List (Nat×Ob)) (l:List SOper):
  sp E (some d) (some (.val a (u :: us))) l k st=nG E l k { slot:=upd st.slot d a,ob:=zq st.ob (u :: us) }:=rfl
theorem Nj (a:A) (us:List (Nat×Ob)) (l:List SOper):sp E none (some (.val a us)) l k st=nG E l k { slot:=st.slot,ob:=zq st.ob us }:=rfl
theorem If (d:Option Nat) (x:D) (us:List (Nat×Ob)) (l:List SOper):
  sp E d (some (.pan x us)) l k st=yQ E k (.panic x,{ slot:=st.slot,ob:=zq st.ob us }):=rfl
theorem NA {α:Type} (d:Option Nat) (x:Option α) (f:α→Option Out) (l:List SOper):
  sp E d (x.bind f) l k st=x.bind fun y=>sp E d (f y) l k st:=by
 unfold sp; rw [Option.bind_assoc]
theorem JP (d:Option Nat) (p:Prop) [Decidable p] (x y:Option Out) (l:List SOper):
  sp E d (if p then x else y) l k st=if p then sp E d x l k st else sp E d y l k st:=by
 split <;> rfl
theorem QV (d:Option Nat) (l:List SOper):sp E d none l k st=none:=rfl
theorem FL (live:List Nat):gT E live [] k st=cF E live k (.normal,st):=rfl
theorem C0 (live:List Nat):cF E live k (.normal,st)=yQ E k (.normal,st.only live):=rfl
theorem Bz (live:List Nat) (x:D):cF E live k (.panic x,st)=yQ E k (.panic x,st.forget E.ps):=rfl
theorem Ff {Γ:Ctx} {c:Bool} {x:SOper} (h1:x.fb=[]) (h2:x.fl=false) (h3:x.guard=none) (h4:x.wt=[]) {st:St}:ei Γ c x st=(eval Γ st.ob (x.dst.getD 0) x.op (x.args.map st.get)).bind fun
  | .val a us=>if (x.op.quiet&&!us.isEmpty)=true then none else some (.normal,({ st with ob:=zq st.ob us }:St).put x.dst a)
  | .pan z us=>some (.panic z,{ st with ob:=zq st.ob us }):=by
 unfold ei
 rw [h1,h2,h3,h4]
 simp only [fw,bG,gR,Bool.and_false,Bool.false_and,Bool.or_false,Bool.false_eq_true,if_false,List.isEmpty_nil,Bool.true_or,if_true]
 rfl
theorem IN (live:List Nat) {x:SOper} (h1:x.fb=[]) (h2:x.fl=false) (h3:x.guard=none) (h4:x.wt=[]) (l:List SOper):
  gT E live (x :: l) k st=xE E live x.dst x.op (eval E.Γ st.ob (x.dst.getD 0) x.op (x.args.map st.get)) l k st:=by
 unfold gT xE
 simp only [qZ,Ff h1 h2 h3 h4]
 cases eval E.Γ st.ob (x.dst.getD 0) x.op (x.args.map st.get) with
 | none=>rfl
 | some p=>
   cases p with
   | val a us=>
     simp only [Option.bind_some]
     by_cases hq:(x.op.quiet&&!us.isEmpty)=true
     ·simp only [hq,if_true]; rfl
     ·simp only [hq]
      simp only [Bool.false_eq_true,if_false,Option.bind_some,gT]
   | pan z us=>rfl
theorem CM (live:List Nat) (d:Nat) (op:SOp) (as:List SA) (l:List SOper):
  gT E live (o d op as :: l) k st=xE E live (some d) op (eval E.Γ st.ob d op (as.map st.get)) l k st:=IN live rfl rfl rfl rfl l
theorem zau (live:List Nat) (op:SOp) (as:List SA) (l:List SOper):
  gT E live (e op as :: l) k st=xE E live none op (eval E.Γ st.ob 0 op (as.map st.get)) l k st:=IN live rfl rfl rfl rfl l
def ifN {α:Type} (c:Bool) (x:Option α):Option α:=match c with
 | true=>none
 | false=>x
@[congr] theorem B5 {α:Type} {c c':Bool} {x:Option α} (h:c=c'):ifN c x=ifN c' x:=by rw [h]
theorem Pp {α:Type} (x:Option α):ifN true x=none:=rfl
theorem fo {α:Type} (x:Option α):ifN false x=x:=rfl
theorem Q6 {α:Type} (c:Bool) (x:Option α):(if c=true then none else x)=ifN c x:=by cases c <;> rfl
def ne1:List (Nat×Ob)→Bool
 | [_]=>false
 | _=>true
theorem BV:ne1 []=true:=rfl
theorem BH (u:Nat×Ob):ne1 [u]=false:=rfl
theorem C3 (u v:Nat×Ob) (r:List (Nat×Ob)):ne1 (u :: v :: r)=true:=rfl
theorem Nl (us:List (Nat×Ob)):(us.length != 1)=ne1 us:=by
 cases us with
 | nil=>rfl
 | cons u r=>cases r <;> simp [ne1]
def wD:List SA→List Nat
 | []=>[]
 | .t n :: r=>n :: wD r
 | .k _ :: r=>wD r
theorem Us (as:List SA):(as.filterMap fun | .t n=>some n | .k _=>none)=wD as:=by
 induction as with
 | nil=>rfl
 | cons a r ih=>cases a <;> simp [wD,ih]
theorem Pu:wD []=[]:=rfl
theorem Ko (n:Nat) (r:List SA):wD (t n :: r)=n :: wD r:=rfl
theorem KL (v:Int) (r:List SA):wD (i v :: r)=wD r:=rfl
theorem Lz (v:Bool) (r:List SA):wD (b v :: r)=wD r:=rfl
theorem Jp (v:List UInt8) (r:List SA):wD (s v :: r)=wD r:=rfl
theorem J4 (r:List SA):wD (n :: r)=wD r:=rfl
theorem K7 (a:A) (r:List SA):wD (.k a :: r)=wD r:=rfl
def uj (fb:List Nat) (s:Nat→A) (ns:List Nat):Bool:=ns.any fun n=>(yo (s n)).any fun i=>fb.any (· == i)
theorem QQ {fb:List Nat} {st:St} {ns:List Nat}:fw fb st ns=uj fb st.slot ns:=by
 cases fb with
 | nil=>simp [fw,uj]
 | cons f fb=>rfl
theorem OC (fb:List Nat) (s:Nat→A):uj fb s []=false:=rfl
theorem Ie (s:Nat→A) (ns:List Nat):uj [] s ns=false:=by simp [uj]
theorem Qa (fb:List Nat) (s:Nat→A) (m:Nat) (ns:List Nat):uj fb s (m :: ns)=((yo (s m)).any (fun i=>fb.any (· == i))||uj fb s ns):=rfl
theorem Sm {fb:List Nat} {us:List (Nat×Ob)}:bG fb us=us.any fun p=>fb.any (· == p.1):=by
 cases fb with
 | nil=>simp [bG]
 | cons f fb=>rfl
theorem NU (i v:Nat):yo (.row i v)=[i]:=by simp only [yo]
theorem Lh (i v o:Nat):yo (.adr i v o)=[i]:=by simp only [yo]
theorem Mj (i v o:Nat):yo (.rad i v o)=[i]:=by simp only [yo]
theorem Lu (cs:List A):yo (.agg cs)=yV cs:=by simp only [yo]
theorem Nh (cs:List A):yo (.tup cs)=yV cs:=by simp only [yo]
theorem HL (x:D):yo (.d x)=[]:=by simp only [yo]
theorem Mk:yo .nil=[]:=by simp only [yo]
theorem Qn:yo .undef=[]:=by simp only [yo]
theorem JW (cs:List D):yo (.cp cs)=[]:=by simp only [yo]
theorem P9:yV []=[]:=by simp only [yV]
theorem Qc (a:A) (r:List A):yV (a :: r)=yo a++yV r:=by simp only [yV]
def nH (wt:List Nat) (s:Nat→A) (T:List Nat):Bool:=wt.any fun n=>(uk (s n)).any fun id=>T.any (· == id)
theorem Uj {wt:List Nat} {st:St} {T:List Nat}:gR wt st T=nH wt st.slot T:=by
 cases wt with
 | nil=>simp [gR,nH]
 | cons f fb=>rfl
theorem Rk (s:Nat→A) (T:List Nat):nH [] s T=false:=rfl
theorem Oa (wt:List Nat) (s:Nat→A):nH wt s []=false:=by simp [nH]
theorem Tn (n:Nat) (wt:List Nat) (s:Nat→A) (T:List Nat):nH (n :: wt) s T=((uk (s n)).any (fun id=>T.any (· == id))||nH wt s T):=rfl
def ZY (fb:List Nat) (fl:Bool) (wt:List Nat) (s:Nat→A) (op:SOp) (ob:Nat→Ob) (us:List (Nat×Ob)):Bool:=
 (op.quiet&&!us.isEmpty)||(us.any fun p=>fb.any (· == p.1))||(fl&&ne1 us)||(!fl&&nH wt s (rl op ob us))
theorem Hu (fb:List Nat) (fl:Bool) (wt:List Nat) (s:Nat→A) (op:SOp) (ob:Nat→Ob) (us:List (Nat×Ob)):ZY fb fl wt s op ob us=
 ((op.quiet&&!us.isEmpty)||(us.any fun p=>fb.any (· == p.1))||(fl&&ne1 us)||(!fl&&nH wt s (rl op ob us))):=rfl
def bY (c:Bool) (fb:List Nat) (us:List (Nat×Ob)):Bool:=!fb.isEmpty&&(!c||(us.any fun p=>fb.any (· == p.1)))
theorem Fj (c:Bool) (fb:List Nat) (us:List (Nat×Ob)):bY c fb us=(!fb.isEmpty&&(!c||(us.any fun p=>fb.any (· == p.1)))):=rfl
theorem RL {α:Type} (c:Bool) (fb:List Nat) (us:List (Nat×Ob)) (x:Option α):(if (fb.isEmpty||(c&&!(us.any fun p=>fb.any (· == p.1))))=true then x else none)=ifN (bY c fb us) x:=by
 cases fb with
 | nil=>rfl
 | cons a fb=>
   unfold bY
   cases c <;> cases (us.any fun p=>(a :: fb).any (· == p.1)) <;> rfl
def uH (E:En) (live:List Nat) (fb:List Nat) (fl:Bool) (wt:List Nat) (d:Option Nat) (op:SOp) (x:Option Out) (l:List SOper) (k:List KJ) (st:St):Option XOut:=x.bind fun
 | .val a us=>ifN (ZY fb fl wt st.slot op st.ob us) (gT E live l k (({ st with ob:=zq st.ob us }:St).put d a))
 | .pan x us=>ifN (bY E.ps.isEmpty fb us) (cF E live k (.panic x,{ st with ob:=zq st.ob us }))
@[congr] theorem CZ {v fb:List Nat} {fl:Bool} {wt:List Nat} {d:Option Nat} {op:SOp} {x x':Option Out} {l:List SOper} (h:x=x'):
   uH E v fb fl wt d op x l k st=uH E v fb fl wt d op x' l k st:=by rw [h]
theorem Fv {Γ:Ctx} {c:Bool} {fb:List Nat} {fl:Bool} {wt:List Nat} {d:Option Nat} {op:SOp} {as:List SA}:ei Γ c ⟨d,op,as,none,fb,fl,wt⟩ st=ifN (uj fb st.slot (wD as)) ((eval Γ st.ob (d.getD 0) op (as.map st.get)).bind fun
  | .val a us=>ifN (ZY fb fl wt st.slot op st.ob us) (some (.normal,({ st with ob:=zq st.ob us }:St).put d a))
  | .pan z us=>ifN (bY c fb us) (some (.panic z,{ st with ob:=zq st.ob us }))):=by
 have hrd:(⟨d,op,as,none,fb,fl,wt⟩:SOper).reads=wD as:=by
  show (as.filterMap fun | .t n=>some n | .k _=>none)++[]=_
  rw [List.append_nil,Us]
 unfold ei
 rw [hrd]
 simp only [QQ,Q6,Nl,Sm,Uj]
 congr 2
 funext z
 cases z with
 | val a us=>rfl
 | pan x us=>exact RL ..
theorem IW (live:List Nat) (fb:List Nat) (fl:Bool) (wt:List Nat) (d:Option Nat) (op:SOp) (as:List SA) (l:List SOper):
  gT E live (⟨d,op,as,none,fb,fl,wt⟩ :: l) k st=ifN (uj fb st.slot (wD as)) (uH E live fb fl wt d op (eval E.Γ st.ob (d.getD 0) op (as.map st.get)) l k st):=by
 unfold gT uH
 simp only [qZ,Fv]
 cases uj fb st.slot (wD as) with
 | true=>rfl
 | false=>
   simp only [fo]
   cases eval E.Γ st.ob (d.getD 0) op (as.map st.get) with
   | none=>rfl
   | some p=>
     cases p with
     | val a us=>
       simp only [Option.bind_some]
       cases ZY fb fl wt st.slot op st.ob us with
       | true=>rfl
       | false=>simp only [fo,Option.bind_some]; rfl
     | pan z us=>
       simp only [Option.bind_some]
       cases bY E.ps.isEmpty fb us with
       | true=>rfl
       | false=>simp only [fo,Option.bind_some]
theorem D5 (live:List Nat) (fb:List Nat) (fl:Bool) (wt:List Nat) (d:Nat) (op:SOp) (as:List SA) (l:List SOper):
  gT E live (ap fb fl wt (o d op as) :: l) k st=ifN (uj fb st.slot (wD as)) (uH E live fb fl wt (some d) op (eval E.Γ st.ob d op (as.map st.get)) l k st):=IW ..
theorem Dz (live:List Nat) (fb:List Nat) (fl:Bool) (wt:List Nat) (op:SOp) (as:List SA) (l:List SOper):
  gT E live (ap fb fl wt (e op as) :: l) k st=ifN (uj fb st.slot (wD as)) (uH E live fb fl wt none op (eval E.Γ st.ob 0 op (as.map st.get)) l k st):=IW ..
theorem MP (live:List Nat) (fb:List Nat) (fl:Bool) (wt:List Nat) (d:Nat) (op:SOp) (a:A) (us:List (Nat×Ob)) (l:List SOper):
  uH E live fb fl wt (some d) op (some (.val a us)) l k st=ifN (ZY fb fl wt st.slot op st.ob us) (gT E live l k { slot:=upd st.slot d a,ob:=zq st.ob us }):=rfl
theorem PG (live:List Nat) (fb:List Nat) (fl:Bool) (wt:List Nat) (op:SOp) (a:A) (us:List (Nat×Ob)) (l:List SOper):
  uH E live fb fl wt none op (some (.val a us)) l k st=ifN (ZY fb fl wt st.slot op st.ob us) (gT E live l k { slot:=st.slot,ob:=zq st.ob us }):=rfl
theorem Nm (live:List Nat) (fb:List Nat) (fl:Bool) (wt:List Nat) (d:Option Nat) (op:SOp) (x:D) (us:List (Nat×Ob)) (l:List SOper):
  uH E live fb fl wt d op (some (.pan x us)) l k st=ifN (bY E.ps.isEmpty fb us) (cF E live k (.panic x,{ slot:=st.slot,ob:=zq st.ob us })):=rfl
theorem Ot {α:Type} (live:List Nat) (fb:List Nat) (fl:Bool) (wt:List Nat) (d:Option Nat) (op:SOp) (x:Option α) (f:α→Option Out) (l:List SOper):
  uH E live fb fl wt d op (x.bind f) l k st=x.bind fun y=>uH E live fb fl wt d op (f y) l k st:=by
 unfold uH; rw [Option.bind_assoc]
theorem Lp (live:List Nat) (fb:List Nat) (fl:Bool) (wt:List Nat) (d:Option Nat) (op:SOp) (p:Prop) [Decidable p] (x y:Option Out) (l:List SOper):
  uH E live fb fl wt d op (if p then x else y) l k st=if p then uH E live fb fl wt d op x l k st else uH E live fb fl wt d op y l k st:=by
 split <;> rfl
theorem K4 (live:List Nat) (fb:List Nat) (fl:Bool) (wt:List Nat) (d:Option Nat) (op:SOp) (l:List SOper):uH E live fb fl wt d op none l k st=none:=rfl
theorem Fg (f:FuncId):SOp.quiet (.call f)=false:=rfl
theorem D4:SOp.quiet .dyn=false:=rfl
theorem Eu:SOp.quiet .box=false:=rfl
theorem KZ (z:List A):SOp.quiet (.alloc z)=false:=rfl
theorem E6 (e s l:Nat):SOp.quiet (lit e s l)=false:=rfl
theorem EN (e s b:Nat) (z:List D):SOp.quiet (.mkS e s b z)=false:=rfl
theorem F7 (e s b:Nat):SOp.quiet (.app e s b)=false:=rfl
theorem BN (n:Nat):SOp.quiet (.st n)=false:=rfl
theorem I0 {α:Type}:([]:List α).isEmpty=true:=rfl
theorem Ks {α:Type} (a:α) (l:List α):(a :: l).isEmpty=false:=rfl
theorem CJ (s:Nat→A) (ob:Nat→Ob) (live:List Nat) (fb:List Nat) (fl:Bool) (wt:List Nat) (c:Nat) (w:Bool) (d:Nat) (op:SOp) (as:List SA) (l:List SOper):
  gT E live (ap fb fl wt (g c w d op as) :: l) k ⟨s,ob⟩=ifN (uj fb s (wD as)||uj fb s [c]) (gGd (s c) w (uH E live fb fl wt (some d) op (eval E.Γ ob d op (as.map (St.get ⟨upd s c (.d (.bool w)),ob⟩))) l k ⟨upd s c (.d (.bool w)),ob⟩)
   (gT E live l k ⟨upd (upd s c (.d (.bool !w))) d (.tup []),ob⟩) (gT E live l k ⟨upd s d (.tup []),ob⟩)):=by
 have hrd:fw (ap fb fl wt (g c w d op as)).fb ⟨s,ob⟩ (ap fb fl wt (g c w d op as)).reads=(uj fb s (wD as)||uj fb s [c]):=by
  rw [QQ]
  show uj fb s ((as.filterMap fun | .t n=>some n | .k _=>none)++[c])=_
  rw [Us]
  unfold uj
  rw [List.any_append]
 have hex:ei E.Γ E.ps.isEmpty (ap fb fl wt (g c w d op as)) ⟨s,ob⟩=ifN (uj fb s (wD as)||uj fb s [c]) (match vC (s c) w with
   | some true=>(eval E.Γ ob d op (as.map (St.get ⟨s,ob⟩))).bind fun
     | .val a us=>ifN (ZY fb fl wt s op ob us) (some (.normal,({ slot:=s,ob:=zq ob us }:St).put (some d) a))
     | .pan z us=>ifN (bY E.ps.isEmpty fb us) (some (.panic z,{ slot:=s,ob:=zq ob us }))
   | some false=>some (.normal,⟨upd s d (.tup []),ob⟩)
   | none=>none):=by
  rw [← hrd]
  unfold ei
  cases fw (ap fb fl wt (g c w d op as)).fb ⟨s,ob⟩ (ap fb fl wt (g c w d op as)).reads with
  | true=>rfl
  | false=>
    simp only [Bool.false_eq_true,if_false,fo]
    show (match vC (s c) w with
     | some true=>_
     | some false=>_
     | none=>_)=_
    cases vC (s c) w with
    | none=>rfl
    | some b=>
      cases b with
      | false=>rfl
      | true=>
        simp only [Q6,Nl,Sm,Uj]
        show (eval E.Γ ob d op (as.map (St.get ⟨s,ob⟩))).bind _=_
        congr 1
        funext z
        cases z with
        | val a us=>rfl
        | pan x us=>exact RL ..
 cases hc:(uj fb s (wD as)||uj fb s [c]) with
 | true=>
   rw [hc] at hex
   unfold gT
   simp only [qZ,hex,Pp]
   rfl
 | false=>
   rw [hc,fo] at hex
   rw [fo]
   refine SU (fun s'=>uH E live fb fl wt (some d) op (eval E.Γ ob d op (as.map (St.get ⟨s',ob⟩))) l k ⟨s',ob⟩) (fun s=>gT E live l k ⟨upd s d (.tup []),ob⟩) ?_ ?_ ?_ ?_
   ·intro h
    unfold gT uH
    simp only [qZ,hex,h,vC,beq_self_eq_true]
    cases eval E.Γ ob d op (as.map (St.get ⟨s,ob⟩)) with
    | none=>rfl
    | some p=>
      cases p with
      | val a us=>
        simp only [Option.bind_some]
        cases ZY fb fl wt s op ob us with
        | true=>rfl
        | false=>simp only [fo,Option.bind_some]; rfl
      | pan z us=>
        simp only [Option.bind_some]
        cases bY E.ps.isEmpty fb us with
        | true=>rfl
        | false=>simp only [fo,Option.bind_some]
   ·rintro ⟨b,h,hne⟩
    have:(b == w)=false:=by simpa using hne
    unfold gT
    simp only [qZ,hex,h,vC,this,Option.bind_some]
   ·intro h
    unfold gT
    simp only [qZ,hex,h,vC,Option.bind_some]
   ·intro h
    unfold gT
    simp only [qZ,hex,h]
    rfl
theorem zao (s:Nat→A) (ob:Nat→Ob) (live:List Nat) (c:Nat) (w:Bool) (d:Nat) (op:SOp) (as:List SA) (l:List SOper):
  gT E live (g c w d op as :: l) k ⟨s,ob⟩=gGd (s c) w (xE E live (some d) op (eval E.Γ ob d op (as.map (St.get ⟨upd s c (.d (.bool w)),ob⟩))) l k ⟨upd s c (.d (.bool w)),ob⟩)
   (gT E live l k ⟨upd (upd s c (.d (.bool !w))) d (.tup []),ob⟩) (gT E live l k ⟨upd s d (.tup []),ob⟩):=by
 have hex:ei E.Γ E.ps.isEmpty (g c w d op as) ⟨s,ob⟩=match vC (s c) w with
   | some true=>ei E.Γ E.ps.isEmpty (o d op as) ⟨s,ob⟩
   | some false=>some (.normal,⟨upd s d (.tup []),ob⟩)
   | none=>none:=rfl
 refine SU (fun s=>xE E live (some d) op (eval E.Γ ob d op (as.map (St.get ⟨s,ob⟩))) l k ⟨s,ob⟩) (fun s=>gT E live l k ⟨upd s d (.tup []),ob⟩) ?_ ?_ ?_ ?_
 ·intro h
  refine Eq.trans ?_ (CM (E:=E) (k:=k) (st:=⟨s,ob⟩) live d op as l)
  unfold gT
  simp only [qZ,hex,h,vC,beq_self_eq_true]
 ·rintro ⟨b,h,hne⟩
  have:(b == w)=false:=by simpa using hne
  unfold gT
  simp only [qZ,hex,h,vC,this,Option.bind_some]
 ·intro h
  unfold gT
  simp only [qZ,hex,h,vC,Option.bind_some]
 ·intro h
  unfold gT
  simp only [qZ,hex,h]
  rfl
theorem Pq (live:List Nat) (d:Nat) (op:SOp) (a:A) (l:List SOper):
  xE E live (some d) op (some (.val a [])) l k st=gT E live l k { slot:=upd st.slot d a,ob:=st.ob }:=by
 unfold xE
 simp [zq,St.put]
theorem u3 (live:List Nat) (d:Nat) (op:SOp) (hq:op.quiet=false) (a:A) (u:Nat×Ob) (us:List (Nat×Ob)) (l:List SOper):
  xE E live (some d) op (some (.val a (u :: us))) l k st=gT E live l k { slot:=upd st.slot d a,ob:=zq st.ob (u :: us) }:=by
 unfold xE
 simp [hq,St.put]
theorem Wj (live:List Nat) (op:SOp) (hq:op.quiet=false) (a:A) (us:List (Nat×Ob)) (l:List SOper):
  xE E live none op (some (.val a us)) l k st=gT E live l k { slot:=st.slot,ob:=zq st.ob us }:=by
 unfold xE
 simp [hq,St.put]
theorem Lb (live:List Nat) (d:Option Nat) (op:SOp) (x:D) (us:List (Nat×Ob)) (l:List SOper):
  xE E live d op (some (.pan x us)) l k st=cF E live k (.panic x,{ slot:=st.slot,ob:=zq st.ob us }):=rfl
theorem OR {α:Type} (live:List Nat) (d:Option Nat) (op:SOp) (x:Option α) (f:α→Option Out) (l:List SOper):
  xE E live d op (x.bind f) l k st=x.bind fun y=>xE E live d op (f y) l k st:=by
 unfold xE; rw [Option.bind_assoc]
theorem MX (live:List Nat) (d:Option Nat) (op:SOp) (p:Prop) [Decidable p] (x y:Option Out) (l:List SOper):
  xE E live d op (if p then x else y) l k st=if p then xE E live d op x l k st else xE E live d op y l k st:=by
 split <;> rfl
theorem K8 (live:List Nat) (d:Option Nat) (op:SOp) (l:List SOper):xE E live d op none l k st=none:=rfl
def dE (E:En) (dd:Option (List Nat×List Nat)) (e:Ex) (st:St):Option XOut:=(EF E dd (e,st)).bind E.wk
@[congr] theorem BM {E:En} {dd dd':Option (List Nat×List Nat)} {e:Ex} {st:St} (h:dd=dd'):dE E dd e st=dE E dd' e st:=by rw [h]
theorem JB (e:Ex):yQ E [] (e,st)=dE E E.dd e st:=rfl
theorem M3 (e:Ex):dE E none e st=if np st.ob E.ck=true then fin E (hY E.pl E.rs (e,st)) else none:=by
 show (if np st.ob E.ck=true then hY E.pl E.rs (e,st) else none:Option XOut).bind E.wk=_
 split <;> rfl
theorem Io (x:List Nat×List Nat):dE E (some x) .ret st=dE E none .ret st:=rfl
theorem Qj (x:List Nat×List Nat):dE E (some x) .normal st=dE E none .normal st:=rfl
def Id (da ids:List Nat) (ob:Nat→Ob):Out→Option St
 | .val _ us=>some { slot:=zw (pU da ids),ob:=zq ob us }
 | .pan .. =>none
theorem K6 (da ids:List Nat) (ob:Nat→Ob) (a:A) (us:List (Nat×Ob)):Id da ids ob (.val a us)=some ⟨zw (pU da ids),zq ob us⟩:=rfl
def PC (E:En) (ids da:List Nat) (x:D) (ob:Nat→Ob):Option St:=(sv false ob (ids.map fun id=> .adr id 1 0)).bind fun p=>
 if (yL p.2.2&&!(p.2.2.any fun m=>p.2.1.any (· == m)))=true then (E.fd x p.1).bind fun outs=>(eX E.Γ ob 0 p.2.1 p.2.2 (.ret (.tup []) outs)).bind (Id da ids ob) else none
theorem Ia (ps ids da:List Nat) (x:D):Wv E.Γ E.fd ps ids da x st=PC E ids da x (st.forget ps).ob:=by
 unfold Wv PC
 cases sv false (st.forget ps).ob (ids.map fun id=> .adr id 1 0) with
 | none=>rfl
 | some p=>
   obtain ⟨xs,ls,ms⟩:=p
   simp only [Option.bind_some]
   split
   ·cases E.fd x xs with
    | none=>rfl
    | some outs=>
      simp only [Option.bind_some]
      cases eX E.Γ (st.forget ps).ob 0 ls ms (.ret (.tup []) outs) with
      | none=>rfl
      | some o=>cases o <;> rfl
   ·rfl
def Zc (ps:List Nat) (ob:Nat→Ob):List (Nat×Ob):=ps.map fun id=>(id,⟨(ob id).ver,m5 ob (ob id).o,false⟩)
theorem Ml (ps:List Nat) (s:Nat→A) (ob:Nat→Ob):(St.forget ⟨s,ob⟩ ps)=⟨fun _=> .undef,zF (Zc ps ob)⟩:=by
 unfold St.forget Zc
 congr 1
 funext id
 show (if ps.any (· == id)=true then (⟨(ob id).ver,m5 ob (ob id).o,false⟩:Ob) else {})=_
 induction ps with
 | nil=>rfl
 | cons p ps ih=>
   simp only [List.map_cons,zF,List.any_cons]
   by_cases h:id=p
   ·subst h; simp
   ·have:(p == id)=false:=by simpa using fun e=>h e.symm
    simp only [this,Bool.false_or,if_neg h]
    exact ih
def Rn (E:En) (ids da:List Nat) (x:D) (st:St):Option XOut:=(PC E ids da x st.ob).bind fun st'=>dE E none .ret st'
theorem Je (ids da:List Nat) (x:D):dE E (some (ids,da)) (.panic x) st=Rn E ids da x (st.forget (E.pl++ids)):=by
 show ((Wv E.Γ E.fd (E.pl++ids) ids da x st).bind fun st'=>jD E.pl E.ck E.rs (.ret,st')).bind E.wk=_
 rw [Ia,Option.bind_assoc]; rfl
theorem Ga (ids da:List Nat) (x:D) (s:Nat→A) (ob:Nat→Ob):Rn E ids da x ⟨s,ob⟩=(sv false ob (ids.map fun id=> .adr id 1 0)).bind fun p=>
 if (yL p.2.2&&!(p.2.2.any fun m=>p.2.1.any (· == m)))=true then (E.fd x p.1).bind fun outs=>(eX E.Γ ob 0 p.2.1 p.2.2 (.ret (.tup []) outs)).bind fun o=>(Id da ids ob o).bind fun st'=>dE E none .ret st' else none:=by
 unfold Rn PC
 rw [Option.bind_assoc]
 congr 1
 funext p
 split
 ·rw [Option.bind_assoc]
  congr 1
  funext outs
  rw [Option.bind_assoc]
 ·rfl
theorem Om (Γ:Ctx) (ob:Nat→Ob) (d:Nat) (ls ms:List Nat) (x:X) (outs:List (List D)):eX Γ ob d ls ms (.ret x outs)=
  (xY ob ms outs).bind fun bs=>some (.val (xU (zq ob bs) ms x (ofX (zq ob bs) d x 0).1) ((if (xP Γ.fl x&&outs.all lu)=true then [] else zX ob ls)++(bs++(ofX (zq ob bs) d x 0).2.1))):=by
 simp only [eX]; cases xY ob ms outs <;> rfl
theorem Sp:pU [] []=[]:=rfl
theorem Ta (t id:Nat) (ts ids:List Nat):pU (t :: ts) (id :: ids)=(t,.adr id 1 0) :: pU ts ids:=rfl
theorem Ps (ob:Nat→Ob):kz ob []=some []:=rfl
theorem Qe (ob:Nat→Ob) (id:Nat) (r:List A):kz ob (.adr id 1 0 :: r)=if (ob id).ver=1∧(ob id).o.isBox=true then (kz ob r).bind fun x=>some (id :: x) else none:=by
 simp only [kz]
 split
 ·cases kz ob r <;> rfl
 ·rfl
theorem M4 (cs:List A):O.isBox (.box cs)=true:=rfl
def gB (E:En) (b:Cd) (st:St):Option XOut:=G E b [] st
theorem ij (b:Cd):gB E b st=G E b [] st:=rfl
def gDf (E:En) (ids da:List Nat) (b:Cd) (x:Option St):Option XOut:=x.bind fun st=>gB (E.behind ids da) b st
@[congr] theorem B0 {E:En} {ids da:List Nat} {b:Cd} {x x':Option St} (h:x=x'):gDf E ids da b x=gDf E ids da b x':=by rw [h]
theorem KR (ids da:List Nat) (b:Cd):gDf E ids da b (some st)=gB (E.behind ids da) b st:=rfl
theorem gV (ids da:List Nat):(E.behind ids da).n=E.n:=rfl
theorem IU (ids da:List Nat) (p:Ex×St):yQ (E.behind ids da) [] p=(W5 E.Γ E.fd E.pl ids da E.ck E.rs p).bind E.wk:=rfl
theorem Gr (da keep:List Nat) (b:Cd) (s:Nat→A) (ob:Nat→Ob):yQ E (.df da keep b :: k) (.normal,⟨s,ob⟩)=(kz ob (da.map s)).bind fun ids=>gDf E ids da b (canon (E.ps++ids) keep ⟨s,ob⟩):=by
 rfl
theorem R7 (da keep:List Nat) (b:Cd):yQ E (.df da keep b :: k) (.ret,st)=yQ E k (.ret,st):=rfl
theorem Tm (da keep:List Nat) (b:Cd) (y:D):yQ E (.df da keep b :: k) (.panic y,st)=yQ E k (.panic y,st):=rfl
theorem Do (x:Cd):yQ E (.c x :: k) (.normal,st)=G E x k st:=rfl
theorem PF (x:Cd):yQ E (.c x :: k) (.ret,st)=yQ E k (.ret,st):=rfl
theorem R8 (x:Cd) (j:Nat):yQ E (.c x :: k) (.exit j,st)=yQ E k (.exit j,st):=rfl
theorem Sa (x:Cd) (y:D):yQ E (.c x :: k) (.panic y,st)=yQ E k (.panic y,st):=rfl
theorem FU (id:Nat):yQ E (.b id :: k) (.normal,st)=yQ E k (.normal,st):=rfl
theorem Px (id:Nat):yQ E (.b id :: k) (.ret,st)=yQ E k (.ret,st):=rfl
theorem QC (id j:Nat):yQ E (.b id :: k) (.exit j,st)=if j=id then yQ E k (.normal,st) else yQ E k (.exit j,st):=rfl
theorem Sf (id:Nat) (y:D):yQ E (.b id :: k) (.panic y,st)=yQ E k (.panic y,st):=rfl
theorem zaT (live:List Nat) (s:Nat→A) (ob:Nat→Ob):yQ E (.v live :: k) (.normal,⟨s,ob⟩)=yQ E k (.normal,⟨zw (live.map fun n=>(n,s n)),ob⟩):=rfl
theorem TU (live:List Nat) (y:D):yQ E (.v live :: k) (.panic y,st)=yQ E k (.panic y,st):=rfl
theorem FP (keep:List Nat) (b:Cd) (m:Nat):yQ E (.l keep b m :: k) (.normal,st)=gL E keep b m k st:=rfl
theorem PJ (keep:List Nat) (b:Cd) (m:Nat):yQ E (.l keep b m :: k) (.ret,st)=yQ E k (.ret,st):=rfl
theorem RS (keep:List Nat) (b:Cd) (m j:Nat):yQ E (.l keep b m :: k) (.exit j,st)=yQ E k (.exit j,st):=rfl
theorem SP (keep:List Nat) (b:Cd) (m:Nat) (y:D):yQ E (.l keep b m :: k) (.panic y,st)=yQ E k (.panic y,st):=rfl
theorem z9 {Γ:Ctx} {n:Nat} (wk:XOut→Option XOut) (m:Nat) (c:Cd) (rs:List RV) (xs:List X) (h:xs.length=m∧xs.all iu=true∧yL ((enter 0 xs).2.map (·.1))=true):
  (lH Γ n m c rs xs).bind wk=G ⟨Γ,(enter 0 xs).2.map (·.1),(enter 0 xs).2.map (·.1),uZ (enter 0 xs).2,n,rs,none,fun _ _=>none,wk⟩ c [] { slot:=zw (enter 0 xs).1,ob:=zF (enter 0 xs).2 }:=by
 unfold lH G
 rw [if_pos h,Option.bind_assoc]
 congr 1
theorem gZ {Γ:Ctx} {FD:D→List X→Option (List (List D))} {n:Nat} (wk:XOut→Option XOut) (m:Nat) (a:Cd) (da keep:List Nat) (b:Cd) (rs:List RV) (xs:List X)
  (h:xs.length=m∧xs.all iu=true∧yL ((enter 0 xs).2.map (·.1))=true):
  (bf Γ FD n m a da keep b rs xs).bind wk=G ⟨Γ,(enter 0 xs).2.map (·.1),(enter 0 xs).2.map (·.1),uZ (enter 0 xs).2,n,rs,none,FD,wk⟩ a [.df da keep b] { slot:=zw (enter 0 xs).1,ob:=zF (enter 0 xs).2 }:=by
 unfold bf G
 rw [if_pos h,Option.bind_assoc]
 congr 1
 funext p
 obtain ⟨e,st⟩:=p
 cases e with
 | normal=>
   simp only [yQ]
   rw [Option.bind_assoc]
   congr 1
   funext ids
   rw [Option.bind_assoc]
   congr 1
   funext st'
   rw [Option.bind_assoc]
 | _=>rfl
theorem I6 {Γ:Ctx} {n:Nat} (m b:Nat) (c:Cd) (x:D) (xs:List X) (h:xs.length=m∧xs.all iu=true∧yL ((enter 0 xs).2.map (·.1))=true):
  Z1 Γ n m b c x xs=(G ⟨Γ,(enter 0 xs).2.map (·.1),(enter 0 xs).2.map (·.1),uZ (enter 0 xs).2,n,[],none,fun _ _=>none,some⟩ c [] { slot:=zw ((b,.d x) :: (enter 0 xs).1),ob:=zF (enter 0 xs).2 }).bind fun
   | .ret (.tup []) outs=>some outs
   | _=>none:=by
 unfold Z1 G
 rw [if_pos h,Option.bind_assoc,Option.bind_assoc]
 congr 1
 funext p
 show (jD _ _ _ p).bind _=((jD _ _ _ p).bind some).bind _
 cases jD ((enter 0 xs).2.map (·.1)) (uZ (enter 0 xs).2) [] p <;> rfl
end
end Go.Vm
