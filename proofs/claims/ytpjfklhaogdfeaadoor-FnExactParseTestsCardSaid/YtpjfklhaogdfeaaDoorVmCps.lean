/- Running the abstract machine by rewriting, to the end of the call: every test that is open stays an 'if'. -/
import Derived.Test.YtpjfklhaogdfeaaDoorVmEv
set_option linter.unusedSectionVars false
set_option linter.unusedSimpArgs false
set_option linter.unusedVariables false
namespace Go.Vm
inductive KJ where
 | c (x:Cd)
 | b (id:Nat)
 | v (live:List Nat)
 | l (keep:List Nat) (b:Cd) (m:Nat)
 | df (da keep:List Nat) (b:Cd)
structure En where
 Γ:Ctx
 ps:List Nat
 pl:List Nat
 ck:List (Nat×KO)
 n:Nat
 rs:List RV
 dd:Option (List Nat×List Nat)
 fd:D→List X→Option (List (List D))
 wk:XOut→Option XOut
def En.behind (E:En) (ids da:List Nat):En:={ E with ps:=E.ps++ids,dd:=some (ids,da) }
def O6 (E:En) (dd:Option (List Nat×List Nat)) (p:Ex×St):Option XOut:=match dd with
 | none=>re E.pl E.ck E.rs p
 | some (ids,da)=>iU E.Γ E.fd E.pl ids da E.ck E.rs p
def zF (E:En):List KJ→Ex×St→Option XOut
 | [],p=>(O6 E E.dd p).bind E.wk
 | .c x :: k,(.normal,st)=>(run E.Γ E.ps E.n x st).bind (zF E k)
 | .c _ :: k,(e,st)=>zF E k (e,st)
 | .b id :: k,(.exit j,st)=>if j=id then zF E k (.normal,st) else zF E k (.exit j,st)
 | .b _ :: k,(e,st)=>zF E k (e,st)
 | .v live :: k,(.normal,st)=>zF E k (.normal,st.only live)
 | .v _ :: k,(e,st)=>zF E k (e,st)
 | .l keep b m :: k,(.normal,st)=>(bO E.Γ E.ps E.n keep b m st).bind (zF E k)
 | .l .. :: k,(e,st)=>zF E k (e,st)
 | .df da keep b :: _,(.normal,st)=>(su st.ob (da.map st.slot)).bind fun ids=>(canon (E.ps++ids) keep st).bind fun st=>
     (run E.Γ (E.ps++ids) E.n b st).bind fun p=>(iU E.Γ E.fd E.pl ids da E.ck E.rs p).bind E.wk
 | .df .. :: k,(e,st)=>zF E k (e,st)
def fin (E:En) (x:Option XOut):Option XOut:=x.bind E.wk
def G (E:En) (c:Cd) (k:List KJ) (st:St):Option XOut:=(run E.Γ E.ps E.n c st).bind (zF E k)
def tz (E:En) (l:List SOper) (k:List KJ) (st:St):Option XOut:=(tU E.Γ l st).bind (zF E k)
def wM (E:En) (d:Option Nat) (x:Option Out) (l:List SOper) (k:List KJ) (st:St):Option XOut:=x.bind fun
 | .val a us=>tz E l k (({ st with ob:=za st.ob us }:St).put d a)
 | .pan x us=>zF E k (.panic x,{ st with ob:=za st.ob us })
def gSt (E:En) (k:List KJ) (e:Ex) (st:St):Option XOut:=zF E k (e,st)
def gL (E:En) (keep:List Nat) (b:Cd) (m:Nat) (k:List KJ) (st:St):Option XOut:=(bO E.Γ E.ps E.n keep b m st).bind (zF E k)
def gH (E:En) (keep:List Nat) (b:Cd) (k:List KJ):Nat→St→Option XOut
 | 0,_=>none
 | m+1,st=>G E b (.l keep b m :: k) st
def gC (E:En) (keep:List Nat) (b:Cd) (m:Nat) (k:List KJ) (st:Option St):Option XOut:=match st with
 | some st=>gH E keep b k m st
 | none=>none
def o7 (E:En) (live:List Nat) (k:List KJ):Ex×St→Option XOut
 | (.normal,st')=>zF E k (.normal,st'.only live)
 | (e,st')=>zF E k (e,st'.forget E.ps)
def gT (E:En) (live:List Nat) (l:List SOper) (k:List KJ) (st:St):Option XOut:=(vT E.Γ E.ps.isEmpty l st).bind (o7 E live k)
def z6 (E:En) (live:List Nat) (d:Option Nat) (op:SOp) (x:Option Out) (l:List SOper) (k:List KJ) (st:St):Option XOut:=x.bind fun
 | .val a us=>if op.quiet&&!us.isEmpty then none else gT E live l k (({ st with ob:=za st.ob us }:St).put d a)
 | .pan x us=>o7 E live k (.panic x,{ st with ob:=za st.ob us })
def gIf {α:Type} (c:Option Bool) (x y:Option α):Option α:=match c with
 | some true=>x
 | some false=>y
 | none=>none
def br {α:Type} (c:Bool) (x y:Option α):Option α:=if c=true then x else y
section
variable {E:En} {k:List KJ} {st:St}
theorem QX:G E .skip k st=zF E k (.normal,st):=rfl
theorem NX:G E .ret k st=zF E k (.ret,st):=rfl
theorem Py (id:Nat):G E (.exit id) k st=zF E k (.exit id,st):=rfl
theorem M2 (a b:Cd):G E (sq a b) k st=G E a (.c b :: k) st:=by
 unfold G sq
 simp only [run]
 cases h:run E.Γ E.ps E.n a st with
 | none=>rfl
 | some p=>obtain ⟨e,s⟩:=p; cases e <;> simp [zF]
theorem Sa (id:Nat) (b:Cd):G E (.block id b) k st=G E b (.b id :: k) st:=by
 unfold G
 simp only [run]
 cases h:run E.Γ E.ps E.n b st with
 | none=>rfl
 | some p=>
   obtain ⟨e,s⟩:=p
   cases e <;> simp [zF]
   split <;> simp_all [zF]
theorem TS (b:Cd):G E (.scope b) k st=G E b k st:=by
 unfold G; simp only [run]
def gFz (E:En) (b:Cd) (k:List KJ) (st:St):A→Option XOut
 | .adr id ver _=>(xk st.ob id ver).bind fun cells=>(zR st.ob cells).bind fun p=>
     G E b k { slot:=st.slot,ob:=za st.ob (zg st.ob p.2++[(id,{ st.ob id with o:= .box (p.1.map dA) })]) }
 | _=>G E b k st
theorem NF (m:Nat) (b:Cd):G E (.frz m b) k st=gFz E b k st (st.slot m):=by
 unfold G gFz
 simp only [run,St.frz]
 cases st.slot m <;> try rfl
 rename_i id ver off
 dsimp only
 cases h:xk st.ob id ver with
 | none=>rfl
 | some cells=>
   simp only [Option.bind_some]
   cases h2:zR st.ob cells with
   | none=>rfl
   | some p=>rfl
theorem PG (c:SA) (x y:Cd):G E (.cond c x y) k st=gIf (ZH (st.get c)) (G E x k st) (G E y k st):=by
 unfold G
 simp only [run]
 cases hc:st.get c with
 | d z=>
   cases z with
   | bool b=>cases b <;> simp [ZH,gIf]
   | _=>rfl
 | _=>rfl
theorem G_r (live:List Nat) (l:List SOper):G E (r live l) k st=tz E l (.v live :: k) st:=by
 unfold G tz r
 simp only [run]
 cases h:tU E.Γ l st with
 | none=>rfl
 | some p=>obtain ⟨e,s⟩:=p; cases e <;> simp [zF]
theorem Ld (watch live:List Nat) (l:List SOper):G E (rd watch live l) k st=gT E live l k st:=by
 unfold G gT rd
 simp only [run]
 cases h:vT E.Γ E.ps.isEmpty l st with
 | none=>rfl
 | some p=>
   obtain ⟨e,s⟩:=p
   cases e <;> rfl
theorem PB (keep:List Nat) (b:Cd):G E (.loop keep b) k st=gL E keep b E.n k st:=rfl
theorem NB (keep:List Nat) (b:Cd) (m:Nat):gL E keep b m k st=gC E keep b m k (canon E.ps keep st):=by
 unfold gL bO gC
 cases m with
 | zero=>cases canon E.ps keep st <;> rfl
 | succ m=>
   simp only [iX]
   cases canon E.ps keep st with
   | none=>rfl
   | some s=>
     simp only [Option.bind_some,gH,G]
     cases run E.Γ E.ps E.n b s with
     | none=>rfl
     | some p=>obtain ⟨e,s'⟩:=p; cases e <;> rfl
theorem bu (keep:List Nat) (b:Cd) (m:Nat):gC E keep b m k (some st)=gH E keep b k m st:=rfl
theorem Ls (keep:List Nat) (b:Cd):gH E keep b k 0 st=none:=rfl
theorem wd (keep:List Nat) (b:Cd) (m:Nat):gH E keep b k (m+1) st=G E b (.l keep b m :: k) st:=rfl
theorem Vb:tz E [] k st=zF E k (.normal,st):=rfl
theorem fB (x:SOper) (l:List SOper) (h:x.guard=none):
  tz E (x :: l) k st=wM E x.dst (eval E.Γ st.ob (x.dst.getD 0) x.op (x.args.map st.get)) l k st:=by
 unfold tz wM
 simp only [tU,step,h]
 cases eval E.Γ st.ob (x.dst.getD 0) x.op (x.args.map st.get) with
 | none=>rfl
 | some p=>cases p <;> rfl
theorem PP (d:Nat) (op:SOp) (as:List SA) (l:List SOper):
  tz E (o d op as :: l) k st=wM E (some d) (eval E.Γ st.ob d op (as.map st.get)) l k st:=fB _ _ rfl
theorem P3 (op:SOp) (as:List SA) (l:List SOper):
  tz E (e op as :: l) k st=wM E none (eval E.Γ st.ob 0 op (as.map st.get)) l k st:=fB _ _ rfl
def gGd (a:A) (w:Bool) (x y z:Option XOut):Option XOut:=match a with
 | .d (.bool b)=>if b=w then x else y
 | .tup []=>z
 | _=>none
@[congr] theorem My {a a':A} {w:Bool} {x y z:Option XOut} (h:a=a'):gGd a w x y z=gGd a' w x y z:=by rw [h]
theorem Tk (b:Bool) (x y z:Option XOut):gGd (.d (.bool b)) true x y z=gIf (some b) x y:=by cases b <;> rfl
theorem Tx (b:Bool) (x y z:Option XOut):gGd (.d (.bool b)) false x y z=gIf (some b) y x:=by cases b <;> rfl
theorem Tv (w:Bool) (x y z:Option XOut):gGd (.tup []) w x y z=z:=rfl
theorem Yk {α:Type} {s:Nat→α} {c:Nat} {a:α} (h:s c=a):upd s c a=s:=by
 funext n
 unfold upd
 split
 ·rename_i e; subst e; exact h.symm
 ·rfl
theorem eA {s:Nat→A} {c:Nat} {w:Bool} (f g:(Nat→A)→Option XOut) {r:Option XOut}
  (h1:s c= .d (.bool w)→r=f s) (h2:(∃ b,s c= .d (.bool b)∧b ≠ w)→r=g s) (h3:s c= .tup []→r=g s) (h4:yY (s c) w=none→r=none):
  r=gGd (s c) w (f (upd s c (.d (.bool w)))) (g (upd s c (.d (.bool !w)))) (g s):=by
 unfold gGd
 split
 ·rename_i b hb
  by_cases e:b=w
  ·subst e
   rw [if_pos rfl,Yk hb]; exact h1 hb
  ·have:b=!w:=by cases b <;> cases w <;> first | rfl | exact absurd rfl e
   rw [if_neg e,h2 ⟨b,hb,e⟩,Yk (by rw [hb,this])]
 ·rename_i hb; exact h3 hb
 ·rename_i a h5 h6
  refine h4 ?_
  unfold yY
  split
  ·rename_i b hb; exact absurd hb (h5 b)
  ·rename_i hb; exact absurd hb h6
  ·rfl
theorem Qj (s:Nat→A) (ob:Nat→Ob) (c:Nat) (w:Bool) (d:Nat) (op:SOp) (as:List SA) (l:List SOper):
  tz E (g c w d op as :: l) k ⟨s,ob⟩=gGd (s c) w (wM E (some d) (eval E.Γ ob d op (as.map (St.get ⟨upd s c (.d (.bool w)),ob⟩))) l k ⟨upd s c (.d (.bool w)),ob⟩)
   (tz E l k ⟨upd (upd s c (.d (.bool !w))) d (.tup []),ob⟩) (tz E l k ⟨upd s d (.tup []),ob⟩):=by
 have hst:step E.Γ (g c w d op as) ⟨s,ob⟩=match yY (s c) w with
   | some true=>(eval E.Γ ob d op (as.map (St.get ⟨s,ob⟩))).map (fun
     | Out.val a us=>(Ex.normal,({ slot:=s,ob:=za ob us }:St).put (some d) a)
     | .pan x us=>(.panic x,{ slot:=s,ob:=za ob us }))
   | some false=>some (.normal,⟨upd s d (.tup []),ob⟩)
   | none=>none:=rfl
 refine eA (fun s=>wM E (some d) (eval E.Γ ob d op (as.map (St.get ⟨s,ob⟩))) l k ⟨s,ob⟩) (fun s=>tz E l k ⟨upd s d (.tup []),ob⟩) ?_ ?_ ?_ ?_
 ·intro h
  unfold tz wM
  simp only [tU,hst,h,yY,beq_self_eq_true]
  cases eval E.Γ ob d op (as.map (St.get ⟨s,ob⟩)) with
  | none=>rfl
  | some p=>cases p <;> rfl
 ·rintro ⟨b,h,hne⟩
  have:(b == w)=false:=by simpa using hne
  unfold tz
  simp only [tU,hst,h,yY,this]
  rfl
 ·intro h
  unfold tz
  simp only [tU,hst,h,yY]
  rfl
 ·intro h
  unfold tz
  simp only [tU,hst,h]
  rfl
theorem XN (d:Nat) (a:A) (l:List SOper):wM E (some d) (some (.val a [])) l k st=tz E l k { slot:=upd st.slot d a,ob:=st.ob }:=rfl
theorem UZ (d:Nat) (a:A) (u:Nat×Ob) (us:List (Nat×Ob)) (l:List SOper):
  wM E (some d) (some (.val a (u :: us))) l k st=tz E l k { slot:=upd st.slot d a,ob:=za st.ob (u :: us) }:=rfl
theorem Z3 (a:A) (us:List (Nat×Ob)) (l:List SOper):wM E none (some (.val a us)) l k st=tz E l k { slot:=st.slot,ob:=za st.ob us }:=rfl
theorem VE (d:Option Nat) (x:D) (us:List (Nat×Ob)) (l:List SOper):
  wM E d (some (.pan x us)) l k st=zF E k (.panic x,{ slot:=st.slot,ob:=za st.ob us }):=rfl
theorem Xg {α:Type} (d:Option Nat) (x:Option α) (f:α→Option Out) (l:List SOper):
  wM E d (x.bind f) l k st=x.bind fun y=>wM E d (f y) l k st:=by
 unfold wM; rw [Option.bind_assoc]
theorem WN (d:Option Nat) (p:Prop) [Decidable p] (x y:Option Out) (l:List SOper):
  wM E d (if p then x else y) l k st=if p then wM E d x l k st else wM E d y l k st:=by
 split <;> rfl
theorem bJ (d:Option Nat) (l:List SOper):wM E d none l k st=none:=rfl
theorem Oz (live:List Nat):gT E live [] k st=o7 E live k (.normal,st):=rfl
theorem Nl (live:List Nat):o7 E live k (.normal,st)=zF E k (.normal,st.only live):=rfl
theorem Nq (live:List Nat) (x:D):o7 E live k (.panic x,st)=zF E k (.panic x,st.forget E.ps):=rfl
theorem TH {Γ:Ctx} {c:Bool} {x:SOper} (h1:x.fb=[]) (h2:x.fl=false) (h3:x.guard=none) (h4:x.wt=[]) {st:St}:pj Γ c x st=(eval Γ st.ob (x.dst.getD 0) x.op (x.args.map st.get)).bind fun
  | .val a us=>if (x.op.quiet&&!us.isEmpty)=true then none else some (.normal,({ st with ob:=za st.ob us }:St).put x.dst a)
  | .pan z us=>some (.panic z,{ st with ob:=za st.ob us }):=by
 unfold pj
 rw [h1,h2,h3,h4]
 simp only [qL,mE,qz,Bool.and_false,Bool.false_and,Bool.or_false,Bool.false_eq_true,if_false,List.isEmpty_nil,Bool.true_or,if_true]
 rfl
theorem Tu (live:List Nat) {x:SOper} (h1:x.fb=[]) (h2:x.fl=false) (h3:x.guard=none) (h4:x.wt=[]) (l:List SOper):
  gT E live (x :: l) k st=z6 E live x.dst x.op (eval E.Γ st.ob (x.dst.getD 0) x.op (x.args.map st.get)) l k st:=by
 unfold gT z6
 simp only [vT,TH h1 h2 h3 h4]
 cases eval E.Γ st.ob (x.dst.getD 0) x.op (x.args.map st.get) with
 | none=>rfl
 | some p=>
   cases p with
   | val a us=>
     simp only [Option.bind_some]
     by_cases hq:(x.op.quiet&&!us.isEmpty)=true
     ·simp only [hq,if_true]; rfl
     ·simp only [hq]
      simp only [Bool.false_eq_true,if_false,Option.bind_some,gT]
   | pan z us=>rfl
theorem PN (live:List Nat) (d:Nat) (op:SOp) (as:List SA) (l:List SOper):
  gT E live (o d op as :: l) k st=z6 E live (some d) op (eval E.Γ st.ob d op (as.map st.get)) l k st:=Tu live rfl rfl rfl rfl l
theorem MM (live:List Nat) (op:SOp) (as:List SA) (l:List SOper):
  gT E live (e op as :: l) k st=z6 E live none op (eval E.Γ st.ob 0 op (as.map st.get)) l k st:=Tu live rfl rfl rfl rfl l
def ifN {α:Type} (c:Bool) (x:Option α):Option α:=match c with
 | true=>none
 | false=>x
@[congr] theorem Mn {α:Type} {c c':Bool} {x:Option α} (h:c=c'):ifN c x=ifN c' x:=by rw [h]
theorem ZA {α:Type} (x:Option α):ifN true x=none:=rfl
theorem qP {α:Type} (x:Option α):ifN false x=x:=rfl
theorem bf {α:Type} (c:Bool) (x:Option α):(if c=true then none else x)=ifN c x:=by cases c <;> rfl
def ne1:List (Nat×Ob)→Bool
 | [_]=>false
 | _=>true
theorem N3:ne1 []=true:=rfl
theorem N4 (u:Nat×Ob):ne1 [u]=false:=rfl
theorem NV (u v:Nat×Ob) (r:List (Nat×Ob)):ne1 (u :: v :: r)=true:=rfl
theorem Xl (us:List (Nat×Ob)):(us.length != 1)=ne1 us:=by
 cases us with
 | nil=>rfl
 | cons u r=>cases r <;> simp [ne1]
def yC:List SA→List Nat
 | []=>[]
 | .t n :: r=>n :: yC r
 | .k _ :: r=>yC r
theorem gY (as:List SA):(as.filterMap fun | .t n=>some n | .k _=>none)=yC as:=by
 induction as with
 | nil=>rfl
 | cons a r ih=>cases a <;> simp [yC,ih]
theorem Zp:yC []=[]:=rfl
theorem Tc (n:Nat) (r:List SA):yC (t n :: r)=n :: yC r:=rfl
theorem Wu (v:Int) (r:List SA):yC (i v :: r)=yC r:=rfl
theorem VN (v:Bool) (r:List SA):yC (b v :: r)=yC r:=rfl
theorem V2 (v:List UInt8) (r:List SA):yC (s v :: r)=yC r:=rfl
theorem Ve (r:List SA):yC (n :: r)=yC r:=rfl
theorem UL (a:A) (r:List SA):yC (.k a :: r)=yC r:=rfl
def xm (fb:List Nat) (s:Nat→A) (ns:List Nat):Bool:=ns.any fun n=>(zm (s n)).any fun i=>fb.any (· == i)
theorem bL {fb:List Nat} {st:St} {ns:List Nat}:qL fb st ns=xm fb st.slot ns:=by
 cases fb with
 | nil=>simp [qL,xm]
 | cons f fb=>rfl
theorem Zs (fb:List Nat) (s:Nat→A):xm fb s []=false:=rfl
theorem Uo (s:Nat→A) (ns:List Nat):xm [] s ns=false:=by simp [xm]
theorem ci (fb:List Nat) (s:Nat→A) (m:Nat) (ns:List Nat):xm fb s (m :: ns)=((zm (s m)).any (fun i=>fb.any (· == i))||xm fb s ns):=rfl
theorem eO {fb:List Nat} {us:List (Nat×Ob)}:mE fb us=us.any fun p=>fb.any (· == p.1):=by
 cases fb with
 | nil=>simp [mE]
 | cons f fb=>rfl
theorem ZX (i v:Nat):zm (.row i v)=[i]:=by simp only [zm]
theorem X8 (i v o:Nat):zm (.adr i v o)=[i]:=by simp only [zm]
theorem Xf (i v o:Nat):zm (.rad i v o)=[i]:=by simp only [zm]
theorem XP (cs:List A):zm (.agg cs)=zG cs:=by simp only [zm]
theorem YY (cs:List A):zm (.tup cs)=zG cs:=by simp only [zm]
theorem Rn (x:D):zm (.d x)=[]:=by simp only [zm]
theorem Ys:zm .nil=[]:=by simp only [zm]
theorem cO:zm .undef=[]:=by simp only [zm]
theorem Vd (cs:List D):zm (.cp cs)=[]:=by simp only [zm]
theorem ZJ:zG []=[]:=by simp only [zG]
theorem cM (a:A) (r:List A):zG (a :: r)=zm a++zG r:=by simp only [zG]
def tt (wt:List Nat) (s:Nat→A) (T:List Nat):Bool:=wt.any fun n=>(xq (s n)).any fun id=>T.any (· == id)
theorem ft {wt:List Nat} {st:St} {T:List Nat}:qz wt st T=tt wt st.slot T:=by
 cases wt with
 | nil=>simp [qz,tt]
 | cons f fb=>rfl
theorem dl (s:Nat→A) (T:List Nat):tt [] s T=false:=rfl
theorem bT (wt:List Nat) (s:Nat→A):tt wt s []=false:=by simp [tt]
theorem fC (n:Nat) (wt:List Nat) (s:Nat→A) (T:List Nat):tt (n :: wt) s T=((xq (s n)).any (fun id=>T.any (· == id))||tt wt s T):=rfl
def lx (fb:List Nat) (fl:Bool) (wt:List Nat) (s:Nat→A) (op:SOp) (ob:Nat→Ob) (us:List (Nat×Ob)):Bool:=
 (op.quiet&&!us.isEmpty)||(us.any fun p=>fb.any (· == p.1))||(fl&&ne1 us)||(!fl&&tt wt s (vF op ob us))
theorem TN (fb:List Nat) (fl:Bool) (wt:List Nat) (s:Nat→A) (op:SOp) (ob:Nat→Ob) (us:List (Nat×Ob)):lx fb fl wt s op ob us=
 ((op.quiet&&!us.isEmpty)||(us.any fun p=>fb.any (· == p.1))||(fl&&ne1 us)||(!fl&&tt wt s (vF op ob us))):=rfl
def mF (c:Bool) (fb:List Nat) (us:List (Nat×Ob)):Bool:=!fb.isEmpty&&(!c||(us.any fun p=>fb.any (· == p.1)))
theorem Sd (c:Bool) (fb:List Nat) (us:List (Nat×Ob)):mF c fb us=(!fb.isEmpty&&(!c||(us.any fun p=>fb.any (· == p.1)))):=rfl
theorem dL {α:Type} (c:Bool) (fb:List Nat) (us:List (Nat×Ob)) (x:Option α):(if (fb.isEmpty||(c&&!(us.any fun p=>fb.any (· == p.1))))=true then x else none)=ifN (mF c fb us) x:=by
 cases fb with
 | nil=>rfl
 | cons a fb=>
   unfold mF
   cases c <;> cases (us.any fun p=>(a :: fb).any (· == p.1)) <;> rfl
def xA (E:En) (live:List Nat) (fb:List Nat) (fl:Bool) (wt:List Nat) (d:Option Nat) (op:SOp) (x:Option Out) (l:List SOper) (k:List KJ) (st:St):Option XOut:=x.bind fun
 | .val a us=>ifN (lx fb fl wt st.slot op st.ob us) (gT E live l k (({ st with ob:=za st.ob us }:St).put d a))
 | .pan x us=>ifN (mF E.ps.isEmpty fb us) (o7 E live k (.panic x,{ st with ob:=za st.ob us }))
@[congr] theorem Nk {v fb:List Nat} {fl:Bool} {wt:List Nat} {d:Option Nat} {op:SOp} {x x':Option Out} {l:List SOper} (h:x=x'):
   xA E v fb fl wt d op x l k st=xA E v fb fl wt d op x' l k st:=by rw [h]
theorem TM {Γ:Ctx} {c:Bool} {fb:List Nat} {fl:Bool} {wt:List Nat} {d:Option Nat} {op:SOp} {as:List SA}:pj Γ c ⟨d,op,as,none,fb,fl,wt⟩ st=ifN (xm fb st.slot (yC as)) ((eval Γ st.ob (d.getD 0) op (as.map st.get)).bind fun
  | .val a us=>ifN (lx fb fl wt st.slot op st.ob us) (some (.normal,({ st with ob:=za st.ob us }:St).put d a))
  | .pan z us=>ifN (mF c fb us) (some (.panic z,{ st with ob:=za st.ob us }))):=by
 have hrd:(⟨d,op,as,none,fb,fl,wt⟩:SOper).reads=yC as:=by
  show (as.filterMap fun | .t n=>some n | .k _=>none)++[]=_
  rw [List.append_nil,gY]
 unfold pj
 rw [hrd]
 simp only [bL,bf,Xl,eO,ft]
 congr 2
 funext z
 cases z with
 | val a us=>rfl
 | pan x us=>exact dL ..
theorem Tl (live:List Nat) (fb:List Nat) (fl:Bool) (wt:List Nat) (d:Option Nat) (op:SOp) (as:List SA) (l:List SOper):
  gT E live (⟨d,op,as,none,fb,fl,wt⟩ :: l) k st=ifN (xm fb st.slot (yC as)) (xA E live fb fl wt d op (eval E.Γ st.ob (d.getD 0) op (as.map st.get)) l k st):=by
 unfold gT xA
 simp only [vT,TM]
 cases xm fb st.slot (yC as) with
 | true=>rfl
 | false=>
   simp only [qP]
   cases eval E.Γ st.ob (d.getD 0) op (as.map st.get) with
   | none=>rfl
   | some p=>
     cases p with
     | val a us=>
       simp only [Option.bind_some]
       cases lx fb fl wt st.slot op st.ob us with
       | true=>rfl
       | false=>simp only [qP,Option.bind_some]; rfl
     | pan z us=>
       simp only [Option.bind_some]
       cases mF E.ps.isEmpty fb us with
       | true=>rfl
       | false=>simp only [qP,Option.bind_some]
theorem QI (live:List Nat) (fb:List Nat) (fl:Bool) (wt:List Nat) (d:Nat) (op:SOp) (as:List SA) (l:List SOper):
  gT E live (ap fb fl wt (o d op as) :: l) k st=ifN (xm fb st.slot (yC as)) (xA E live fb fl wt (some d) op (eval E.Γ st.ob d op (as.map st.get)) l k st):=Tl ..
theorem Oa (live:List Nat) (fb:List Nat) (fl:Bool) (wt:List Nat) (op:SOp) (as:List SA) (l:List SOper):
  gT E live (ap fb fl wt (e op as) :: l) k st=ifN (xm fb st.slot (yC as)) (xA E live fb fl wt none op (eval E.Γ st.ob 0 op (as.map st.get)) l k st):=Tl ..
theorem YU (live:List Nat) (fb:List Nat) (fl:Bool) (wt:List Nat) (d:Nat) (op:SOp) (a:A) (us:List (Nat×Ob)) (l:List SOper):
  xA E live fb fl wt (some d) op (some (.val a us)) l k st=ifN (lx fb fl wt st.slot op st.ob us) (gT E live l k { slot:=upd st.slot d a,ob:=za st.ob us }):=rfl
theorem aa (live:List Nat) (fb:List Nat) (fl:Bool) (wt:List Nat) (op:SOp) (a:A) (us:List (Nat×Ob)) (l:List SOper):
  xA E live fb fl wt none op (some (.val a us)) l k st=ifN (lx fb fl wt st.slot op st.ob us) (gT E live l k { slot:=st.slot,ob:=za st.ob us }):=rfl
theorem Yh (live:List Nat) (fb:List Nat) (fl:Bool) (wt:List Nat) (d:Option Nat) (op:SOp) (x:D) (us:List (Nat×Ob)) (l:List SOper):
  xA E live fb fl wt d op (some (.pan x us)) l k st=ifN (mF E.ps.isEmpty fb us) (o7 E live k (.panic x,{ slot:=st.slot,ob:=za st.ob us })):=rfl
theorem aZ {α:Type} (live:List Nat) (fb:List Nat) (fl:Bool) (wt:List Nat) (d:Option Nat) (op:SOp) (x:Option α) (f:α→Option Out) (l:List SOper):
  xA E live fb fl wt d op (x.bind f) l k st=x.bind fun y=>xA E live fb fl wt d op (f y) l k st:=by
 unfold xA; rw [Option.bind_assoc]
theorem X1 (live:List Nat) (fb:List Nat) (fl:Bool) (wt:List Nat) (d:Option Nat) (op:SOp) (p:Prop) [Decidable p] (x y:Option Out) (l:List SOper):
  xA E live fb fl wt d op (if p then x else y) l k st=if p then xA E live fb fl wt d op x l k st else xA E live fb fl wt d op y l k st:=by
 split <;> rfl
theorem U3 (live:List Nat) (fb:List Nat) (fl:Bool) (wt:List Nat) (d:Option Nat) (op:SOp) (l:List SOper):xA E live fb fl wt d op none l k st=none:=rfl
theorem T0 (f:FuncId):SOp.quiet (.call f)=false:=rfl
theorem Ov:SOp.quiet .dyn=false:=rfl
theorem Qi:SOp.quiet .box=false:=rfl
theorem VJ (z:List A):SOp.quiet (.alloc z)=false:=rfl
theorem Ou (e s l:Nat):SOp.quiet (lit e s l)=false:=rfl
theorem QG (e s b:Nat) (z:List D):SOp.quiet (.mkS e s b z)=false:=rfl
theorem Oj (e s b:Nat):SOp.quiet (.app e s b)=false:=rfl
theorem Nt (n:Nat):SOp.quiet (.st n)=false:=rfl
theorem RN {α:Type}:([]:List α).isEmpty=true:=rfl
theorem Wt {α:Type} (a:α) (l:List α):(a :: l).isEmpty=false:=rfl
theorem Pd (s:Nat→A) (ob:Nat→Ob) (live:List Nat) (fb:List Nat) (fl:Bool) (wt:List Nat) (c:Nat) (w:Bool) (d:Nat) (op:SOp) (as:List SA) (l:List SOper):
  gT E live (ap fb fl wt (g c w d op as) :: l) k ⟨s,ob⟩=ifN (xm fb s (yC as)||xm fb s [c]) (gGd (s c) w (xA E live fb fl wt (some d) op (eval E.Γ ob d op (as.map (St.get ⟨upd s c (.d (.bool w)),ob⟩))) l k ⟨upd s c (.d (.bool w)),ob⟩)
   (gT E live l k ⟨upd (upd s c (.d (.bool !w))) d (.tup []),ob⟩) (gT E live l k ⟨upd s d (.tup []),ob⟩)):=by
 have hrd:qL (ap fb fl wt (g c w d op as)).fb ⟨s,ob⟩ (ap fb fl wt (g c w d op as)).reads=(xm fb s (yC as)||xm fb s [c]):=by
  rw [bL]
  show xm fb s ((as.filterMap fun | .t n=>some n | .k _=>none)++[c])=_
  rw [gY]
  unfold xm
  rw [List.any_append]
 have hex:pj E.Γ E.ps.isEmpty (ap fb fl wt (g c w d op as)) ⟨s,ob⟩=ifN (xm fb s (yC as)||xm fb s [c]) (match yY (s c) w with
   | some true=>(eval E.Γ ob d op (as.map (St.get ⟨s,ob⟩))).bind fun
     | .val a us=>ifN (lx fb fl wt s op ob us) (some (.normal,({ slot:=s,ob:=za ob us }:St).put (some d) a))
     | .pan z us=>ifN (mF E.ps.isEmpty fb us) (some (.panic z,{ slot:=s,ob:=za ob us }))
   | some false=>some (.normal,⟨upd s d (.tup []),ob⟩)
   | none=>none):=by
  rw [← hrd]
  unfold pj
  cases qL (ap fb fl wt (g c w d op as)).fb ⟨s,ob⟩ (ap fb fl wt (g c w d op as)).reads with
  | true=>rfl
  | false=>
    simp only [Bool.false_eq_true,if_false,qP]
    show (match yY (s c) w with
     | some true=>_
     | some false=>_
     | none=>_)=_
    cases yY (s c) w with
    | none=>rfl
    | some b=>
      cases b with
      | false=>rfl
      | true=>
        simp only [bf,Xl,eO,ft]
        show (eval E.Γ ob d op (as.map (St.get ⟨s,ob⟩))).bind _=_
        congr 1
        funext z
        cases z with
        | val a us=>rfl
        | pan x us=>exact dL ..
 cases hc:(xm fb s (yC as)||xm fb s [c]) with
 | true=>
   rw [hc] at hex
   unfold gT
   simp only [vT,hex,ZA]
   rfl
 | false=>
   rw [hc,qP] at hex
   rw [qP]
   refine eA (fun s'=>xA E live fb fl wt (some d) op (eval E.Γ ob d op (as.map (St.get ⟨s',ob⟩))) l k ⟨s',ob⟩) (fun s=>gT E live l k ⟨upd s d (.tup []),ob⟩) ?_ ?_ ?_ ?_
   ·intro h
    unfold gT xA
    simp only [vT,hex,h,yY,beq_self_eq_true]
    cases eval E.Γ ob d op (as.map (St.get ⟨s,ob⟩)) with
    | none=>rfl
    | some p=>
      cases p with
      | val a us=>
        simp only [Option.bind_some]
        cases lx fb fl wt s op ob us with
        | true=>rfl
        | false=>simp only [qP,Option.bind_some]; rfl
      | pan z us=>
        simp only [Option.bind_some]
        cases mF E.ps.isEmpty fb us with
        | true=>rfl
        | false=>simp only [qP,Option.bind_some]
   ·rintro ⟨b,h,hne⟩
    have:(b == w)=false:=by simpa using hne
    unfold gT
    simp only [vT,hex,h,yY,this,Option.bind_some]
   ·intro h
    unfold gT
    simp only [vT,hex,h,yY,Option.bind_some]
   ·intro h
    unfold gT
    simp only [vT,hex,h]
    rfl
theorem Lk (s:Nat→A) (ob:Nat→Ob) (live:List Nat) (c:Nat) (w:Bool) (d:Nat) (op:SOp) (as:List SA) (l:List SOper):
  gT E live (g c w d op as :: l) k ⟨s,ob⟩=gGd (s c) w (z6 E live (some d) op (eval E.Γ ob d op (as.map (St.get ⟨upd s c (.d (.bool w)),ob⟩))) l k ⟨upd s c (.d (.bool w)),ob⟩)
   (gT E live l k ⟨upd (upd s c (.d (.bool !w))) d (.tup []),ob⟩) (gT E live l k ⟨upd s d (.tup []),ob⟩):=by
 have hex:pj E.Γ E.ps.isEmpty (g c w d op as) ⟨s,ob⟩=match yY (s c) w with
   | some true=>pj E.Γ E.ps.isEmpty (o d op as) ⟨s,ob⟩
   | some false=>some (.normal,⟨upd s d (.tup []),ob⟩)
   | none=>none:=rfl
 refine eA (fun s=>z6 E live (some d) op (eval E.Γ ob d op (as.map (St.get ⟨s,ob⟩))) l k ⟨s,ob⟩) (fun s=>gT E live l k ⟨upd s d (.tup []),ob⟩) ?_ ?_ ?_ ?_
 ·intro h
  refine Eq.trans ?_ (PN (E:=E) (k:=k) (st:=⟨s,ob⟩) live d op as l)
  unfold gT
  simp only [vT,hex,h,yY,beq_self_eq_true]
 ·rintro ⟨b,h,hne⟩
  have:(b == w)=false:=by simpa using hne
  unfold gT
  simp only [vT,hex,h,yY,this,Option.bind_some]
 ·intro h
  unfold gT
  simp only [vT,hex,h,yY,Option.bind_some]
 ·intro h
  unfold gT
  simp only [vT,hex,h]
  rfl
theorem aW (live:List Nat) (d:Nat) (op:SOp) (a:A) (l:List SOper):
  z6 E live (some d) op (some (.val a [])) l k st=gT E live l k { slot:=upd st.slot d a,ob:=st.ob }:=by
 unfold z6
 simp [za,St.put]
theorem xH (live:List Nat) (d:Nat) (op:SOp) (hq:op.quiet=false) (a:A) (u:Nat×Ob) (us:List (Nat×Ob)) (l:List SOper):
  z6 E live (some d) op (some (.val a (u :: us))) l k st=gT E live l k { slot:=upd st.slot d a,ob:=za st.ob (u :: us) }:=by
 unfold z6
 simp [hq,St.put]
theorem iC (live:List Nat) (op:SOp) (hq:op.quiet=false) (a:A) (us:List (Nat×Ob)) (l:List SOper):
  z6 E live none op (some (.val a us)) l k st=gT E live l k { slot:=st.slot,ob:=za st.ob us }:=by
 unfold z6
 simp [hq,St.put]
theorem Xo (live:List Nat) (d:Option Nat) (op:SOp) (x:D) (us:List (Nat×Ob)) (l:List SOper):
  z6 E live d op (some (.pan x us)) l k st=o7 E live k (.panic x,{ slot:=st.slot,ob:=za st.ob us }):=rfl
theorem a7 {α:Type} (live:List Nat) (d:Option Nat) (op:SOp) (x:Option α) (f:α→Option Out) (l:List SOper):
  z6 E live d op (x.bind f) l k st=x.bind fun y=>z6 E live d op (f y) l k st:=by
 unfold z6; rw [Option.bind_assoc]
theorem Xu (live:List Nat) (d:Option Nat) (op:SOp) (p:Prop) [Decidable p] (x y:Option Out) (l:List SOper):
  z6 E live d op (if p then x else y) l k st=if p then z6 E live d op x l k st else z6 E live d op y l k st:=by
 split <;> rfl
theorem U1 (live:List Nat) (d:Option Nat) (op:SOp) (l:List SOper):z6 E live d op none l k st=none:=rfl
def ou (E:En) (dd:Option (List Nat×List Nat)) (e:Ex) (st:St):Option XOut:=(O6 E dd (e,st)).bind E.wk
@[congr] theorem NS {E:En} {dd dd':Option (List Nat×List Nat)} {e:Ex} {st:St} (h:dd=dd'):ou E dd e st=ou E dd' e st:=by rw [h]
theorem Vh (e:Ex):zF E [] (e,st)=ou E E.dd e st:=rfl
theorem YG (e:Ex):ou E none e st=if uG st.ob E.ck=true then fin E (rU E.pl E.rs (e,st)) else none:=by
 show (if uG st.ob E.ck=true then rU E.pl E.rs (e,st) else none:Option XOut).bind E.wk=_
 split <;> rfl
theorem Ul (x:List Nat×List Nat):ou E (some x) .ret st=ou E none .ret st:=rfl
theorem bc (x:List Nat×List Nat):ou E (some x) .normal st=ou E none .normal st:=rfl
def W9 (da ids:List Nat) (ob:Nat→Ob):Out→Option St
 | .val _ us=>some { slot:=zh (uq da ids),ob:=za ob us }
 | .pan .. =>none
theorem Vg (da ids:List Nat) (ob:Nat→Ob) (a:A) (us:List (Nat×Ob)):W9 da ids ob (.val a us)=some ⟨zh (uq da ids),za ob us⟩:=rfl
def aL (E:En) (ids da:List Nat) (x:D) (ob:Nat→Ob):Option St:=(wO false ob (ids.map fun id=> .adr id 1 0)).bind fun p=>
 if (zC p.2.2&&!(p.2.2.any fun m=>p.2.1.any (· == m)))=true then (E.fd x p.1).bind fun outs=>(ov E.Γ ob 0 p.2.1 p.2.2 (.ret (.tup []) outs)).bind (W9 da ids ob) else none
theorem WD (ps ids da:List Nat) (x:D):jQ E.Γ E.fd ps ids da x st=aL E ids da x (st.forget ps).ob:=by
 unfold jQ aL
 cases wO false (st.forget ps).ob (ids.map fun id=> .adr id 1 0) with
 | none=>rfl
 | some p=>
   obtain ⟨xs,ls,ms⟩:=p
   simp only [Option.bind_some]
   split
   ·cases E.fd x xs with
    | none=>rfl
    | some outs=>
      simp only [Option.bind_some]
      cases ov E.Γ (st.forget ps).ob 0 ls ms (.ret (.tup []) outs) with
      | none=>rfl
      | some o=>cases o <;> rfl
   ·rfl
def lE (ps:List Nat) (ob:Nat→Ob):List (Nat×Ob):=ps.map fun id=>(id,⟨(ob id).ver,tE ob (ob id).o,false⟩)
theorem Xc (ps:List Nat) (s:Nat→A) (ob:Nat→Ob):(St.forget ⟨s,ob⟩ ps)=⟨fun _=> .undef,zt (lE ps ob)⟩:=by
 unfold St.forget lE
 congr 1
 funext id
 show (if ps.any (· == id)=true then (⟨(ob id).ver,tE ob (ob id).o,false⟩:Ob) else {})=_
 induction ps with
 | nil=>rfl
 | cons p ps ih=>
   simp only [List.map_cons,zt,List.any_cons]
   by_cases h:id=p
   ·subst h; simp
   ·have:(p == id)=false:=by simpa using fun e=>h e.symm
    simp only [this,Bool.false_or,if_neg h]
    exact ih
def du (E:En) (ids da:List Nat) (x:D) (st:St):Option XOut:=(aL E ids da x st.ob).bind fun st'=>ou E none .ret st'
theorem WO (ids da:List Nat) (x:D):ou E (some (ids,da)) (.panic x) st=du E ids da x (st.forget (E.pl++ids)):=by
 show ((jQ E.Γ E.fd (E.pl++ids) ids da x st).bind fun st'=>re E.pl E.ck E.rs (.ret,st')).bind E.wk=_
 rw [WD,Option.bind_assoc]; rfl
theorem RA (ids da:List Nat) (x:D) (s:Nat→A) (ob:Nat→Ob):du E ids da x ⟨s,ob⟩=(wO false ob (ids.map fun id=> .adr id 1 0)).bind fun p=>
 if (zC p.2.2&&!(p.2.2.any fun m=>p.2.1.any (· == m)))=true then (E.fd x p.1).bind fun outs=>(ov E.Γ ob 0 p.2.1 p.2.2 (.ret (.tup []) outs)).bind fun o=>(W9 da ids ob o).bind fun st'=>ou E none .ret st' else none:=by
 unfold du aL
 rw [Option.bind_assoc]
 congr 1
 funext p
 split
 ·rw [Option.bind_assoc]
  congr 1
  funext outs
  rw [Option.bind_assoc]
 ·rfl
theorem aC (Γ:Ctx) (ob:Nat→Ob) (d:Nat) (ls ms:List Nat) (x:X) (outs:List (List D)):ov Γ ob d ls ms (.ret x outs)=
  (yq ob ms outs).bind fun bs=>some (.val (yi (za ob bs) ms x (ofX (za ob bs) d x 0).1) ((if (yd Γ.fl x&&outs.all tZ)=true then [] else zg ob ls)++(bs++(ofX (za ob bs) d x 0).2.1))):=by
 simp only [ov]; cases yq ob ms outs <;> rfl
theorem eo:uq [] []=[]:=rfl
theorem fY (t id:Nat) (ts ids:List Nat):uq (t :: ts) (id :: ids)=(t,.adr id 1 0) :: uq ts ids:=rfl
theorem aV (ob:Nat→Ob):su ob []=some []:=rfl
theorem cT (ob:Nat→Ob) (id:Nat) (r:List A):su ob (.adr id 1 0 :: r)=if (ob id).ver=1∧(ob id).o.isBox=true then (su ob r).bind fun x=>some (id :: x) else none:=by
 simp only [su]
 split
 ·cases su ob r <;> rfl
 ·rfl
theorem XD (cs:List A):O.isBox (.box cs)=true:=rfl
def gB (E:En) (b:Cd) (st:St):Option XOut:=G E b [] st
theorem LQ (b:Cd):gB E b st=G E b [] st:=rfl
def gDf (E:En) (ids da:List Nat) (b:Cd) (x:Option St):Option XOut:=x.bind fun st=>gB (E.behind ids da) b st
@[congr] theorem MC {E:En} {ids da:List Nat} {b:Cd} {x x':Option St} (h:x=x'):gDf E ids da b x=gDf E ids da b x':=by rw [h]
theorem Ua (ids da:List Nat) (b:Cd):gDf E ids da b (some st)=gB (E.behind ids da) b st:=rfl
theorem ML (ids da:List Nat):(E.behind ids da).n=E.n:=rfl
theorem Tq (ids da:List Nat) (p:Ex×St):zF (E.behind ids da) [] p=(iU E.Γ E.fd E.pl ids da E.ck E.rs p).bind E.wk:=rfl
theorem TU (da keep:List Nat) (b:Cd) (s:Nat→A) (ob:Nat→Ob):zF E (.df da keep b :: k) (.normal,⟨s,ob⟩)=(su ob (da.map s)).bind fun ids=>gDf E ids da b (canon (E.ps++ids) keep ⟨s,ob⟩):=by
 rfl
theorem cN (da keep:List Nat) (b:Cd):zF E (.df da keep b :: k) (.ret,st)=zF E k (.ret,st):=rfl
theorem fU (da keep:List Nat) (b:Cd) (y:D):zF E (.df da keep b :: k) (.panic y,st)=zF E k (.panic y,st):=rfl
theorem Pc (x:Cd):zF E (.c x :: k) (.normal,st)=G E x k st:=rfl
theorem aw (x:Cd):zF E (.c x :: k) (.ret,st)=zF E k (.ret,st):=rfl
theorem cj (x:Cd) (j:Nat):zF E (.c x :: k) (.exit j,st)=zF E k (.exit j,st):=rfl
theorem dX (x:Cd) (y:D):zF E (.c x :: k) (.panic y,st)=zF E k (.panic y,st):=rfl
theorem Qw (id:Nat):zF E (.b id :: k) (.normal,st)=zF E k (.normal,st):=rfl
theorem al (id:Nat):zF E (.b id :: k) (.ret,st)=zF E k (.ret,st):=rfl
theorem cr (id j:Nat):zF E (.b id :: k) (.exit j,st)=if j=id then zF E k (.normal,st) else zF E k (.exit j,st):=rfl
theorem dm (id:Nat) (y:D):zF E (.b id :: k) (.panic y,st)=zF E k (.panic y,st):=rfl
theorem LN (live:List Nat) (s:Nat→A) (ob:Nat→Ob):zF E (.v live :: k) (.normal,⟨s,ob⟩)=zF E k (.normal,⟨zh (live.map fun n=>(n,s n)),ob⟩):=rfl
theorem dc (live:List Nat) (y:D):zF E (.v live :: k) (.panic y,st)=zF E k (.panic y,st):=rfl
theorem Pu (keep:List Nat) (b:Cd) (m:Nat):zF E (.l keep b m :: k) (.normal,st)=gL E keep b m k st:=rfl
theorem bX (keep:List Nat) (b:Cd) (m:Nat):zF E (.l keep b m :: k) (.ret,st)=zF E k (.ret,st):=rfl
theorem cW (keep:List Nat) (b:Cd) (m j:Nat):zF E (.l keep b m :: k) (.exit j,st)=zF E k (.exit j,st):=rfl
theorem dG (keep:List Nat) (b:Cd) (m:Nat) (y:D):zF E (.l keep b m :: k) (.panic y,st)=zF E k (.panic y,st):=rfl
theorem yH {Γ:Ctx} {n:Nat} (wk:XOut→Option XOut) (m:Nat) (c:Cd) (rs:List RV) (xs:List X) (h:xs.length=m∧xs.all ri=true∧zC ((enter 0 xs).2.map (·.1))=true):
  (sf Γ n m c rs xs).bind wk=G ⟨Γ,(enter 0 xs).2.map (·.1),(enter 0 xs).2.map (·.1),xK (enter 0 xs).2,n,rs,none,fun _ _=>none,wk⟩ c [] { slot:=zh (enter 0 xs).1,ob:=zt (enter 0 xs).2 }:=by
 unfold sf G
 rw [if_pos h,Option.bind_assoc]
 congr 1
theorem Lj {Γ:Ctx} {FD:D→List X→Option (List (List D))} {n:Nat} (wk:XOut→Option XOut) (m:Nat) (a:Cd) (da keep:List Nat) (b:Cd) (rs:List RV) (xs:List X)
  (h:xs.length=m∧xs.all ri=true∧zC ((enter 0 xs).2.map (·.1))=true):
  (nP Γ FD n m a da keep b rs xs).bind wk=G ⟨Γ,(enter 0 xs).2.map (·.1),(enter 0 xs).2.map (·.1),xK (enter 0 xs).2,n,rs,none,FD,wk⟩ a [.df da keep b] { slot:=zh (enter 0 xs).1,ob:=zt (enter 0 xs).2 }:=by
 unfold nP G
 rw [if_pos h,Option.bind_assoc]
 congr 1
 funext p
 obtain ⟨e,st⟩:=p
 cases e with
 | normal=>
   simp only [zF]
   rw [Option.bind_assoc]
   congr 1
   funext ids
   rw [Option.bind_assoc]
   congr 1
   funext st'
   rw [Option.bind_assoc]
 | _=>rfl
theorem Lu {Γ:Ctx} {n:Nat} (m b:Nat) (c:Cd) (x:D) (xs:List X) (h:xs.length=m∧xs.all ri=true∧zC ((enter 0 xs).2.map (·.1))=true):
  ki Γ n m b c x xs=(G ⟨Γ,(enter 0 xs).2.map (·.1),(enter 0 xs).2.map (·.1),xK (enter 0 xs).2,n,[],none,fun _ _=>none,some⟩ c [] { slot:=zh ((b,.d x) :: (enter 0 xs).1),ob:=zt (enter 0 xs).2 }).bind fun
   | .ret (.tup []) outs=>some outs
   | _=>none:=by
 unfold ki G
 rw [if_pos h,Option.bind_assoc,Option.bind_assoc]
 congr 1
 funext p
 show (re _ _ _ p).bind _=((re _ _ _ p).bind some).bind _
 cases re ((enter 0 xs).2.map (·.1)) (xK (enter 0 xs).2) [] p <;> rfl
end
end Go.Vm
