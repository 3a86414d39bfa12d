/- Running the abstract machine by rewriting, to the end of the call: every test that is open stays an 'if'. -/
import Derived.Test.YtpjfklhaogdfeaaGreatDoorVmEv
set_option linter.unusedSectionVars false
set_option linter.unusedSimpArgs false
set_option linter.unusedVariables false
namespace Go.Vm
inductive KJ where
 | c (x:Cd)
 | b (id:Nat)
 | v (live:List Nat)
 | l (keep:List Nat) (b:Cd) (m:Nat)
 | df (da keep:List Nat) (b:Cd)
structure En where
 Γ:Ctx
 ps:List Nat
 pl:List Nat
 ck:List (Nat×KO)
 n:Nat
 rs:List RV
 dd:Option (List Nat×List Nat)
 fd:D→List X→Option (List (List D))
 wk:XOut→Option XOut
def En.behind (E:En) (ids da:List Nat):En:={ E with ps:=E.ps++ids,dd:=some (ids,da) }
def Oy (E:En) (dd:Option (List Nat×List Nat)) (p:Ex×St):Option XOut:=match dd with
 | none=>rG E.pl E.ck E.rs p
 | some (ids,da)=>ea E.Γ E.fd E.pl ids da E.ck E.rs p
def zM (E:En):List KJ→Ex×St→Option XOut
 | [],p=>(Oy E E.dd p).bind E.wk
 | .c x :: k,(.normal,st)=>(run E.Γ E.ps E.n x st).bind (zM E k)
 | .c _ :: k,(e,st)=>zM E k (e,st)
 | .b id :: k,(.exit j,st)=>if j=id then zM E k (.normal,st) else zM E k (.exit j,st)
 | .b _ :: k,(e,st)=>zM E k (e,st)
 | .v live :: k,(.normal,st)=>zM E k (.normal,st.only live)
 | .v _ :: k,(e,st)=>zM E k (e,st)
 | .l keep b m :: k,(.normal,st)=>(Yo E.Γ E.ps E.n keep b m st).bind (zM E k)
 | .l .. :: k,(e,st)=>zM E k (e,st)
 | .df da keep b :: _,(.normal,st)=>(sQ st.ob (da.map st.slot)).bind fun ids=>(canon (E.ps++ids) keep st).bind fun st=>
     (run E.Γ (E.ps++ids) E.n b st).bind fun p=>(ea E.Γ E.fd E.pl ids da E.ck E.rs p).bind E.wk
 | .df .. :: k,(e,st)=>zM E k (e,st)
def fin (E:En) (x:Option XOut):Option XOut:=x.bind E.wk
def G (E:En) (c:Cd) (k:List KJ) (st:St):Option XOut:=(run E.Γ E.ps E.n c st).bind (zM E k)
def u4 (E:En) (l:List SOper) (k:List KJ) (st:St):Option XOut:=(tD E.Γ l st).bind (zM E k)
def wu (E:En) (d:Option Nat) (x:Option Out) (l:List SOper) (k:List KJ) (st:St):Option XOut:=x.bind fun
 | .val a us=>u4 E l k (({ st with ob:=za st.ob us }:St).put d a)
 | .pan x us=>zM E k (.panic x,{ st with ob:=za st.ob us })
def gSt (E:En) (k:List KJ) (e:Ex) (st:St):Option XOut:=zM E k (e,st)
def gL (E:En) (keep:List Nat) (b:Cd) (m:Nat) (k:List KJ) (st:St):Option XOut:=(Yo E.Γ E.ps E.n keep b m st).bind (zM E k)
def gH (E:En) (keep:List Nat) (b:Cd) (k:List KJ):Nat→St→Option XOut
 | 0,_=>none
 | m+1,st=>G E b (.l keep b m :: k) st
def gC (E:En) (keep:List Nat) (b:Cd) (m:Nat) (k:List KJ) (st:Option St):Option XOut:=match st with
 | some st=>gH E keep b k m st
 | none=>none
def md (E:En) (live:List Nat) (k:List KJ):Ex×St→Option XOut
 | (.normal,st')=>zM E k (.normal,st'.only live)
 | (e,st')=>zM E k (e,st'.forget E.ps)
def gT (E:En) (live:List Nat) (l:List SOper) (k:List KJ) (st:St):Option XOut:=(vz E.Γ E.ps.isEmpty l st).bind (md E live k)
def yi (E:En) (live:List Nat) (d:Option Nat) (op:SOp) (x:Option Out) (l:List SOper) (k:List KJ) (st:St):Option XOut:=x.bind fun
 | .val a us=>if op.quiet&&!us.isEmpty then none else gT E live l k (({ st with ob:=za st.ob us }:St).put d a)
 | .pan x us=>md E live k (.panic x,{ st with ob:=za st.ob us })
def gIf {α:Type} (c:Option Bool) (x y:Option α):Option α:=match c with
 | some true=>x
 | some false=>y
 | none=>none
def br {α:Type} (c:Bool) (x y:Option α):Option α:=if c=true then x else y
section
variable {E:En} {k:List KJ} {st:St}
theorem MC:G E .skip k st=zM E k (.normal,st):=rfl
theorem Kr:G E .ret k st=zM E k (.ret,st):=rfl
theorem Lq (id:Nat):G E (.exit id) k st=zM E k (.exit id,st):=rfl
theorem Jo (a b:Cd):G E (sq a b) k st=G E a (.c b :: k) st:=by
 unfold G sq
 simp only [run]
 cases h:run E.Γ E.ps E.n a st with
 | none=>rfl
 | some p=>obtain ⟨e,s⟩:=p; cases e <;> simp [zM]
theorem RO (id:Nat) (b:Cd):G E (.block id b) k st=G E b (.b id :: k) st:=by
 unfold G
 simp only [run]
 cases h:run E.Γ E.ps E.n b st with
 | none=>rfl
 | some p=>
   obtain ⟨e,s⟩:=p
   cases e <;> simp [zM]
   split <;> simp_all [zM]
theorem Qc (b:Cd):G E (.scope b) k st=G E b k st:=by
 unfold G; simp only [run]
def gFz (E:En) (b:Cd) (k:List KJ) (st:St):A→Option XOut
 | .adr id ver _=>(xg st.ob id ver).bind fun cells=>(zZ st.ob cells).bind fun p=>
     G E b k { slot:=st.slot,ob:=za st.ob (zl st.ob p.2++[(id,{ st.ob id with o:= .box (p.1.map dA) })]) }
 | _=>G E b k st
theorem KK (m:Nat) (b:Cd):G E (.frz m b) k st=gFz E b k st (st.slot m):=by
 unfold G gFz
 simp only [run,St.frz]
 cases st.slot m <;> try rfl
 rename_i id ver off
 dsimp only
 cases h:xg st.ob id ver with
 | none=>rfl
 | some cells=>
   simp only [Option.bind_some]
   cases h2:zZ st.ob cells with
   | none=>rfl
   | some p=>rfl
theorem Nr (c:SA) (x y:Cd):G E (.cond c x y) k st=gIf (Yi (st.get c)) (G E x k st) (G E y k st):=by
 unfold G
 simp only [run]
 cases hc:st.get c with
 | d z=>
   cases z with
   | bool b=>cases b <;> simp [Yi,gIf]
   | _=>rfl
 | _=>rfl
theorem G_r (live:List Nat) (l:List SOper):G E (r live l) k st=u4 E l (.v live :: k) st:=by
 unfold G u4 r
 simp only [run]
 cases h:tD E.Γ l st with
 | none=>rfl
 | some p=>obtain ⟨e,s⟩:=p; cases e <;> simp [zM]
theorem Jt (watch live:List Nat) (l:List SOper):G E (rd watch live l) k st=gT E live l k st:=by
 unfold G gT rd
 simp only [run]
 cases h:vz E.Γ E.ps.isEmpty l st with
 | none=>rfl
 | some p=>
   obtain ⟨e,s⟩:=p
   cases e <;> rfl
theorem Li (keep:List Nat) (b:Cd):G E (.loop keep b) k st=gL E keep b E.n k st:=rfl
theorem LK (keep:List Nat) (b:Cd) (m:Nat):gL E keep b m k st=gC E keep b m k (canon E.ps keep st):=by
 unfold gL Yo gC
 cases m with
 | zero=>cases canon E.ps keep st <;> rfl
 | succ m=>
   simp only [g9]
   cases canon E.ps keep st with
   | none=>rfl
   | some s=>
     simp only [Option.bind_some,gH,G]
     cases run E.Γ E.ps E.n b s with
     | none=>rfl
     | some p=>obtain ⟨e,s'⟩:=p; cases e <;> rfl
theorem Zc (keep:List Nat) (b:Cd) (m:Nat):gC E keep b m k (some st)=gH E keep b k m st:=rfl
theorem Ia (keep:List Nat) (b:Cd):gH E keep b k 0 st=none:=rfl
theorem wB (keep:List Nat) (b:Cd) (m:Nat):gH E keep b k (m+1) st=G E b (.l keep b m :: k) st:=rfl
theorem Uq:u4 E [] k st=zM E k (.normal,st):=rfl
theorem eN (x:SOper) (l:List SOper) (h:x.guard=none):
  u4 E (x :: l) k st=wu E x.dst (eval E.Γ st.ob (x.dst.getD 0) x.op (x.args.map st.get)) l k st:=by
 unfold u4 wu
 simp only [tD,step,h]
 cases eval E.Γ st.ob (x.dst.getD 0) x.op (x.args.map st.get) with
 | none=>rfl
 | some p=>cases p <;> rfl
theorem M7 (d:Nat) (op:SOp) (as:List SA) (l:List SOper):
  u4 E (o d op as :: l) k st=wu E (some d) (eval E.Γ st.ob d op (as.map st.get)) l k st:=eN _ _ rfl
theorem OJ (op:SOp) (as:List SA) (l:List SOper):
  u4 E (e op as :: l) k st=wu E none (eval E.Γ st.ob 0 op (as.map st.get)) l k st:=eN _ _ rfl
def gGd (a:A) (w:Bool) (x y z:Option XOut):Option XOut:=match a with
 | .d (.bool b)=>if b=w then x else y
 | .tup []=>z
 | _=>none
@[congr] theorem KY {a a':A} {w:Bool} {x y z:Option XOut} (h:a=a'):gGd a w x y z=gGd a' w x y z:=by rw [h]
theorem Rb (b:Bool) (x y z:Option XOut):gGd (.d (.bool b)) true x y z=gIf (some b) x y:=by cases b <;> rfl
theorem Rc (b:Bool) (x y z:Option XOut):gGd (.d (.bool b)) false x y z=gIf (some b) y x:=by cases b <;> rfl
theorem Rs (w:Bool) (x y z:Option XOut):gGd (.tup []) w x y z=z:=rfl
theorem WC {α:Type} {s:Nat→α} {c:Nat} {a:α} (h:s c=a):upd s c a=s:=by
 funext n
 unfold upd
 split
 ·rename_i e; subst e; exact h.symm
 ·rfl
theorem cO {s:Nat→A} {c:Nat} {w:Bool} (f g:(Nat→A)→Option XOut) {r:Option XOut}
  (h1:s c= .d (.bool w)→r=f s) (h2:(∃ b,s c= .d (.bool b)∧b ≠ w)→r=g s) (h3:s c= .tup []→r=g s) (h4:yY (s c) w=none→r=none):
  r=gGd (s c) w (f (upd s c (.d (.bool w)))) (g (upd s c (.d (.bool !w)))) (g s):=by
 unfold gGd
 split
 ·rename_i b hb
  by_cases e:b=w
  ·subst e
   rw [if_pos rfl,WC hb]; exact h1 hb
  ·have:b=!w:=by cases b <;> cases w <;> first | rfl | exact absurd rfl e
   rw [if_neg e,h2 ⟨b,hb,e⟩,WC (by rw [hb,this])]
 ·rename_i hb; exact h3 hb
 ·rename_i a h5 h6
  refine h4 ?_
  unfold yY
  split
  ·rename_i b hb; exact absurd hb (h5 b)
  ·rename_i hb; exact absurd hb h6
  ·rfl
theorem M4 (s:Nat→A) (ob:Nat→Ob) (c:Nat) (w:Bool) (d:Nat) (op:SOp) (as:List SA) (l:List SOper):
  u4 E (g c w d op as :: l) k ⟨s,ob⟩=gGd (s c) w (wu E (some d) (eval E.Γ ob d op (as.map (St.get ⟨upd s c (.d (.bool w)),ob⟩))) l k ⟨upd s c (.d (.bool w)),ob⟩)
   (u4 E l k ⟨upd (upd s c (.d (.bool !w))) d (.tup []),ob⟩) (u4 E l k ⟨upd s d (.tup []),ob⟩):=by
 have hst:step E.Γ (g c w d op as) ⟨s,ob⟩=match yY (s c) w with
   | some true=>(eval E.Γ ob d op (as.map (St.get ⟨s,ob⟩))).map (fun
     | Out.val a us=>(Ex.normal,({ slot:=s,ob:=za ob us }:St).put (some d) a)
     | .pan x us=>(.panic x,{ slot:=s,ob:=za ob us }))
   | some false=>some (.normal,⟨upd s d (.tup []),ob⟩)
   | none=>none:=rfl
 refine cO (fun s=>wu E (some d) (eval E.Γ ob d op (as.map (St.get ⟨s,ob⟩))) l k ⟨s,ob⟩) (fun s=>u4 E l k ⟨upd s d (.tup []),ob⟩) ?_ ?_ ?_ ?_
 ·intro h
  unfold u4 wu
  simp only [tD,hst,h,yY,beq_self_eq_true]
  cases eval E.Γ ob d op (as.map (St.get ⟨s,ob⟩)) with
  | none=>rfl
  | some p=>cases p <;> rfl
 ·rintro ⟨b,h,hne⟩
  have:(b == w)=false:=by simpa using hne
  unfold u4
  simp only [tD,hst,h,yY,this]
  rfl
 ·intro h
  unfold u4
  simp only [tD,hst,h,yY]
  rfl
 ·intro h
  unfold u4
  simp only [tD,hst,h]
  rfl
theorem XV (d:Nat) (a:A) (l:List SOper):wu E (some d) (some (.val a [])) l k st=u4 E l k { slot:=upd st.slot d a,ob:=st.ob }:=rfl
theorem Tj (d:Nat) (a:A) (u:Nat×Ob) (us:List (Nat×Ob)) (l:List SOper):
  wu E (some d) (some (.val a (u :: us))) l k st=u4 E l k { slot:=upd st.slot d a,ob:=za st.ob (u :: us) }:=rfl
theorem Wa (a:A) (us:List (Nat×Ob)) (l:List SOper):wu E none (some (.val a us)) l k st=u4 E l k { slot:=st.slot,ob:=za st.ob us }:=rfl
theorem SK (d:Option Nat) (x:D) (us:List (Nat×Ob)) (l:List SOper):
  wu E d (some (.pan x us)) l k st=zM E k (.panic x,{ slot:=st.slot,ob:=za st.ob us }):=rfl
theorem Wl {α:Type} (d:Option Nat) (x:Option α) (f:α→Option Out) (l:List SOper):
  wu E d (x.bind f) l k st=x.bind fun y=>wu E d (f y) l k st:=by
 unfold wu; rw [Option.bind_assoc]
theorem UW (d:Option Nat) (p:Prop) [Decidable p] (x y:Option Out) (l:List SOper):
  wu E d (if p then x else y) l k st=if p then wu E d x l k st else wu E d y l k st:=by
 split <;> rfl
theorem ZD (d:Option Nat) (l:List SOper):wu E d none l k st=none:=rfl
theorem Mj (live:List Nat):gT E live [] k st=md E live k (.normal,st):=rfl
theorem LC (live:List Nat):md E live k (.normal,st)=zM E k (.normal,st.only live):=rfl
theorem LT (live:List Nat) (x:D):md E live k (.panic x,st)=zM E k (.panic x,st.forget E.ps):=rfl
theorem Pn {Γ:Ctx} {c:Bool} {x:SOper} (h1:x.fb=[]) (h2:x.fl=false) (h3:x.guard=none) (h4:x.wt=[]) {st:St}:pX Γ c x st=(eval Γ st.ob (x.dst.getD 0) x.op (x.args.map st.get)).bind fun
  | .val a us=>if (x.op.quiet&&!us.isEmpty)=true then none else some (.normal,({ st with ob:=za st.ob us }:St).put x.dst a)
  | .pan z us=>some (.panic z,{ st with ob:=za st.ob us }):=by
 unfold pX
 rw [h1,h2,h3,h4]
 simp only [pu,m6,ph,Bool.and_false,Bool.false_and,Bool.or_false,Bool.false_eq_true,if_false,List.isEmpty_nil,Bool.true_or,if_true]
 rfl
theorem Rf (live:List Nat) {x:SOper} (h1:x.fb=[]) (h2:x.fl=false) (h3:x.guard=none) (h4:x.wt=[]) (l:List SOper):
  gT E live (x :: l) k st=yi E live x.dst x.op (eval E.Γ st.ob (x.dst.getD 0) x.op (x.args.map st.get)) l k st:=by
 unfold gT yi
 simp only [vz,Pn h1 h2 h3 h4]
 cases eval E.Γ st.ob (x.dst.getD 0) x.op (x.args.map st.get) with
 | none=>rfl
 | some p=>
   cases p with
   | val a us=>
     simp only [Option.bind_some]
     by_cases hq:(x.op.quiet&&!us.isEmpty)=true
     ·simp only [hq,if_true]; rfl
     ·simp only [hq]
      simp only [Bool.false_eq_true,if_false,Option.bind_some,gT]
   | pan z us=>rfl
theorem ME (live:List Nat) (d:Nat) (op:SOp) (as:List SA) (l:List SOper):
  gT E live (o d op as :: l) k st=yi E live (some d) op (eval E.Γ st.ob d op (as.map st.get)) l k st:=Rf live rfl rfl rfl rfl l
theorem Jy (live:List Nat) (op:SOp) (as:List SA) (l:List SOper):
  gT E live (e op as :: l) k st=yi E live none op (eval E.Γ st.ob 0 op (as.map st.get)) l k st:=Rf live rfl rfl rfl rfl l
def ifN {α:Type} (c:Bool) (x:Option α):Option α:=match c with
 | true=>none
 | false=>x
@[congr] theorem KZ {α:Type} {c c':Bool} {x:Option α} (h:c=c'):ifN c x=ifN c' x:=by rw [h]
theorem Yr {α:Type} (x:Option α):ifN true x=none:=rfl
theorem pz {α:Type} (x:Option α):ifN false x=x:=rfl
theorem ZG {α:Type} (c:Bool) (x:Option α):(if c=true then none else x)=ifN c x:=by cases c <;> rfl
def ne1:List (Nat×Ob)→Bool
 | [_]=>false
 | _=>true
theorem Ko:ne1 []=true:=rfl
theorem Ka (u:Nat×Ob):ne1 [u]=false:=rfl
theorem Kj (u v:Nat×Ob) (r:List (Nat×Ob)):ne1 (u :: v :: r)=true:=rfl
theorem VM (us:List (Nat×Ob)):(us.length != 1)=ne1 us:=by
 cases us with
 | nil=>rfl
 | cons u r=>cases r <;> simp [ne1]
def yL:List SA→List Nat
 | []=>[]
 | .t n :: r=>n :: yL r
 | .k _ :: r=>yL r
theorem ep (as:List SA):(as.filterMap fun | .t n=>some n | .k _=>none)=yL as:=by
 induction as with
 | nil=>rfl
 | cons a r ih=>cases a <;> simp [yL,ih]
theorem Xf:yL []=[]:=rfl
theorem UV (n:Nat) (r:List SA):yL (t n :: r)=n :: yL r:=rfl
theorem T2 (v:Int) (r:List SA):yL (i v :: r)=yL r:=rfl
theorem SM (v:Bool) (r:List SA):yL (b v :: r)=yL r:=rfl
theorem Ra (v:List UInt8) (r:List SA):yL (s v :: r)=yL r:=rfl
theorem U3 (r:List SA):yL (n :: r)=yL r:=rfl
theorem UZ (a:A) (r:List SA):yL (.k a :: r)=yL r:=rfl
def xh (fb:List Nat) (s:Nat→A) (ns:List Nat):Bool:=ns.any fun n=>(zu (s n)).any fun i=>fb.any (· == i)
theorem Zf {fb:List Nat} {st:St} {ns:List Nat}:pu fb st ns=xh fb st.slot ns:=by
 cases fb with
 | nil=>simp [pu,xh]
 | cons f fb=>rfl
theorem Yb (fb:List Nat) (s:Nat→A):xh fb s []=false:=rfl
theorem TX (s:Nat→A) (ns:List Nat):xh [] s ns=false:=by simp [xh]
theorem ah (fb:List Nat) (s:Nat→A) (m:Nat) (ns:List Nat):xh fb s (m :: ns)=((zu (s m)).any (fun i=>fb.any (· == i))||xh fb s ns):=rfl
theorem cJ {fb:List Nat} {us:List (Nat×Ob)}:m6 fb us=us.any fun p=>fb.any (· == p.1):=by
 cases fb with
 | nil=>simp [m6]
 | cons f fb=>rfl
theorem WM (i v:Nat):zu (.row i v)=[i]:=by simp only [zu]
theorem VG (i v o:Nat):zu (.adr i v o)=[i]:=by simp only [zu]
theorem Vn (i v o:Nat):zu (.rad i v o)=[i]:=by simp only [zu]
theorem VU (cs:List A):zu (.agg cs)=zN cs:=by simp only [zu]
theorem Xt (cs:List A):zu (.tup cs)=zN cs:=by simp only [zu]
theorem QY (x:D):zu (.d x)=[]:=by simp only [zu]
theorem VB:zu .nil=[]:=by simp only [zu]
theorem aP:zu .undef=[]:=by simp only [zu]
theorem Td (cs:List D):zu (.cp cs)=[]:=by simp only [zu]
theorem YD:zN []=[]:=by simp only [zN]
theorem aH (a:A) (r:List A):zN (a :: r)=zu a++zN r:=by simp only [zN]
def td (wt:List Nat) (s:Nat→A) (T:List Nat):Bool:=wt.any fun n=>(xk (s n)).any fun id=>T.any (· == id)
theorem eo {wt:List Nat} {st:St} {T:List Nat}:ph wt st T=td wt st.slot T:=by
 cases wt with
 | nil=>simp [ph,td]
 | cons f fb=>rfl
theorem ab (s:Nat→A) (T:List Nat):td [] s T=false:=rfl
theorem Yh (wt:List Nat) (s:Nat→A):td wt s []=false:=by simp [td]
theorem dz (n:Nat) (wt:List Nat) (s:Nat→A) (T:List Nat):td (n :: wt) s T=((xk (s n)).any (fun id=>T.any (· == id))||td wt s T):=rfl
def k9 (fb:List Nat) (fl:Bool) (wt:List Nat) (s:Nat→A) (op:SOp) (ob:Nat→Ob) (us:List (Nat×Ob)):Bool:=
 (op.quiet&&!us.isEmpty)||(us.any fun p=>fb.any (· == p.1))||(fl&&ne1 us)||(!fl&&td wt s (vd op ob us))
theorem RP (fb:List Nat) (fl:Bool) (wt:List Nat) (s:Nat→A) (op:SOp) (ob:Nat→Ob) (us:List (Nat×Ob)):k9 fb fl wt s op ob us=
 ((op.quiet&&!us.isEmpty)||(us.any fun p=>fb.any (· == p.1))||(fl&&ne1 us)||(!fl&&td wt s (vd op ob us))):=rfl
def lI (c:Bool) (fb:List Nat) (us:List (Nat×Ob)):Bool:=!fb.isEmpty&&(!c||(us.any fun p=>fb.any (· == p.1)))
theorem Qy (c:Bool) (fb:List Nat) (us:List (Nat×Ob)):lI c fb us=(!fb.isEmpty&&(!c||(us.any fun p=>fb.any (· == p.1)))):=rfl
theorem d5 {α:Type} (c:Bool) (fb:List Nat) (us:List (Nat×Ob)) (x:Option α):(if (fb.isEmpty||(c&&!(us.any fun p=>fb.any (· == p.1))))=true then x else none)=ifN (lI c fb us) x:=by
 cases fb with
 | nil=>rfl
 | cons a fb=>
   unfold lI
   cases c <;> cases (us.any fun p=>(a :: fb).any (· == p.1)) <;> rfl
def xx (E:En) (live:List Nat) (fb:List Nat) (fl:Bool) (wt:List Nat) (d:Option Nat) (op:SOp) (x:Option Out) (l:List SOper) (k:List KJ) (st:St):Option XOut:=x.bind fun
 | .val a us=>ifN (k9 fb fl wt st.slot op st.ob us) (gT E live l k (({ st with ob:=za st.ob us }:St).put d a))
 | .pan x us=>ifN (lI E.ps.isEmpty fb us) (md E live k (.panic x,{ st with ob:=za st.ob us }))
@[congr] theorem LB {v fb:List Nat} {fl:Bool} {wt:List Nat} {d:Option Nat} {op:SOp} {x x':Option Out} {l:List SOper} (h:x=x'):
   xx E v fb fl wt d op x l k st=xx E v fb fl wt d op x' l k st:=by rw [h]
theorem Pc {Γ:Ctx} {c:Bool} {fb:List Nat} {fl:Bool} {wt:List Nat} {d:Option Nat} {op:SOp} {as:List SA}:pX Γ c ⟨d,op,as,none,fb,fl,wt⟩ st=ifN (xh fb st.slot (yL as)) ((eval Γ st.ob (d.getD 0) op (as.map st.get)).bind fun
  | .val a us=>ifN (k9 fb fl wt st.slot op st.ob us) (some (.normal,({ st with ob:=za st.ob us }:St).put d a))
  | .pan z us=>ifN (lI c fb us) (some (.panic z,{ st with ob:=za st.ob us }))):=by
 have hrd:(⟨d,op,as,none,fb,fl,wt⟩:SOper).reads=yL as:=by
  show (as.filterMap fun | .t n=>some n | .k _=>none)++[]=_
  rw [List.append_nil,ep]
 unfold pX
 rw [hrd]
 simp only [Zf,ZG,VM,cJ,eo]
 congr 2
 funext z
 cases z with
 | val a us=>rfl
 | pan x us=>exact d5 ..
theorem Rn (live:List Nat) (fb:List Nat) (fl:Bool) (wt:List Nat) (d:Option Nat) (op:SOp) (as:List SA) (l:List SOper):
  gT E live (⟨d,op,as,none,fb,fl,wt⟩ :: l) k st=ifN (xh fb st.slot (yL as)) (xx E live fb fl wt d op (eval E.Γ st.ob (d.getD 0) op (as.map st.get)) l k st):=by
 unfold gT xx
 simp only [vz,Pc]
 cases xh fb st.slot (yL as) with
 | true=>rfl
 | false=>
   simp only [pz]
   cases eval E.Γ st.ob (d.getD 0) op (as.map st.get) with
   | none=>rfl
   | some p=>
     cases p with
     | val a us=>
       simp only [Option.bind_some]
       cases k9 fb fl wt st.slot op st.ob us with
       | true=>rfl
       | false=>simp only [pz,Option.bind_some]; rfl
     | pan z us=>
       simp only [Option.bind_some]
       cases lI E.ps.isEmpty fb us with
       | true=>rfl
       | false=>simp only [pz,Option.bind_some]
theorem LA (live:List Nat) (fb:List Nat) (fl:Bool) (wt:List Nat) (d:Nat) (op:SOp) (as:List SA) (l:List SOper):
  gT E live (ap fb fl wt (o d op as) :: l) k st=ifN (xh fb st.slot (yL as)) (xx E live fb fl wt (some d) op (eval E.Γ st.ob d op (as.map st.get)) l k st):=Rn ..
theorem Nw (live:List Nat) (fb:List Nat) (fl:Bool) (wt:List Nat) (op:SOp) (as:List SA) (l:List SOper):
  gT E live (ap fb fl wt (e op as) :: l) k st=ifN (xh fb st.slot (yL as)) (xx E live fb fl wt none op (eval E.Γ st.ob 0 op (as.map st.get)) l k st):=Rn ..
theorem XH (live:List Nat) (fb:List Nat) (fl:Bool) (wt:List Nat) (d:Nat) (op:SOp) (a:A) (us:List (Nat×Ob)) (l:List SOper):
  xx E live fb fl wt (some d) op (some (.val a us)) l k st=ifN (k9 fb fl wt st.slot op st.ob us) (gT E live l k { slot:=upd st.slot d a,ob:=za st.ob us }):=rfl
theorem YM (live:List Nat) (fb:List Nat) (fl:Bool) (wt:List Nat) (op:SOp) (a:A) (us:List (Nat×Ob)) (l:List SOper):
  xx E live fb fl wt none op (some (.val a us)) l k st=ifN (k9 fb fl wt st.slot op st.ob us) (gT E live l k { slot:=st.slot,ob:=za st.ob us }):=rfl
theorem VF (live:List Nat) (fb:List Nat) (fl:Bool) (wt:List Nat) (d:Option Nat) (op:SOp) (x:D) (us:List (Nat×Ob)) (l:List SOper):
  xx E live fb fl wt d op (some (.pan x us)) l k st=ifN (lI E.ps.isEmpty fb us) (md E live k (.panic x,{ slot:=st.slot,ob:=za st.ob us })):=rfl
theorem ZY {α:Type} (live:List Nat) (fb:List Nat) (fl:Bool) (wt:List Nat) (d:Option Nat) (op:SOp) (x:Option α) (f:α→Option Out) (l:List SOper):
  xx E live fb fl wt d op (x.bind f) l k st=x.bind fun y=>xx E live fb fl wt d op (f y) l k st:=by
 unfold xx; rw [Option.bind_assoc]
theorem Ve (live:List Nat) (fb:List Nat) (fl:Bool) (wt:List Nat) (d:Option Nat) (op:SOp) (p:Prop) [Decidable p] (x y:Option Out) (l:List SOper):
  xx E live fb fl wt d op (if p then x else y) l k st=if p then xx E live fb fl wt d op x l k st else xx E live fb fl wt d op y l k st:=by
 split <;> rfl
theorem Uh (live:List Nat) (fb:List Nat) (fl:Bool) (wt:List Nat) (d:Option Nat) (op:SOp) (l:List SOper):xx E live fb fl wt d op none l k st=none:=rfl
theorem Oe (f:FuncId):SOp.quiet (.call f)=false:=rfl
theorem Np:SOp.quiet .dyn=false:=rfl
theorem Mw:SOp.quiet .box=false:=rfl
theorem T4 (z:List A):SOp.quiet (.alloc z)=false:=rfl
theorem O7 (e s l:Nat):SOp.quiet (lit e s l)=false:=rfl
theorem Mu (e s b:Nat) (z:List D):SOp.quiet (.mkS e s b z)=false:=rfl
theorem OV (e s b:Nat):SOp.quiet (.app e s b)=false:=rfl
theorem LR (n:Nat):SOp.quiet (.st n)=false:=rfl
theorem Qr {α:Type}:([]:List α).isEmpty=true:=rfl
theorem Uo {α:Type} (a:α) (l:List α):(a :: l).isEmpty=false:=rfl
theorem Nz (s:Nat→A) (ob:Nat→Ob) (live:List Nat) (fb:List Nat) (fl:Bool) (wt:List Nat) (c:Nat) (w:Bool) (d:Nat) (op:SOp) (as:List SA) (l:List SOper):
  gT E live (ap fb fl wt (g c w d op as) :: l) k ⟨s,ob⟩=ifN (xh fb s (yL as)||xh fb s [c]) (gGd (s c) w (xx E live fb fl wt (some d) op (eval E.Γ ob d op (as.map (St.get ⟨upd s c (.d (.bool w)),ob⟩))) l k ⟨upd s c (.d (.bool w)),ob⟩)
   (gT E live l k ⟨upd (upd s c (.d (.bool !w))) d (.tup []),ob⟩) (gT E live l k ⟨upd s d (.tup []),ob⟩)):=by
 have hrd:pu (ap fb fl wt (g c w d op as)).fb ⟨s,ob⟩ (ap fb fl wt (g c w d op as)).reads=(xh fb s (yL as)||xh fb s [c]):=by
  rw [Zf]
  show xh fb s ((as.filterMap fun | .t n=>some n | .k _=>none)++[c])=_
  rw [ep]
  unfold xh
  rw [List.any_append]
 have hex:pX E.Γ E.ps.isEmpty (ap fb fl wt (g c w d op as)) ⟨s,ob⟩=ifN (xh fb s (yL as)||xh fb s [c]) (match yY (s c) w with
   | some true=>(eval E.Γ ob d op (as.map (St.get ⟨s,ob⟩))).bind fun
     | .val a us=>ifN (k9 fb fl wt s op ob us) (some (.normal,({ slot:=s,ob:=za ob us }:St).put (some d) a))
     | .pan z us=>ifN (lI E.ps.isEmpty fb us) (some (.panic z,{ slot:=s,ob:=za ob us }))
   | some false=>some (.normal,⟨upd s d (.tup []),ob⟩)
   | none=>none):=by
  rw [← hrd]
  unfold pX
  cases pu (ap fb fl wt (g c w d op as)).fb ⟨s,ob⟩ (ap fb fl wt (g c w d op as)).reads with
  | true=>rfl
  | false=>
    simp only [Bool.false_eq_true,if_false,pz]
    show (match yY (s c) w with
     | some true=>_
     | some false=>_
     | none=>_)=_
    cases yY (s c) w with
    | none=>rfl
    | some b=>
      cases b with
      | false=>rfl
      | true=>
        simp only [ZG,VM,cJ,eo]
        show (eval E.Γ ob d op (as.map (St.get ⟨s,ob⟩))).bind _=_
        congr 1
        funext z
        cases z with
        | val a us=>rfl
        | pan x us=>exact d5 ..
 cases hc:(xh fb s (yL as)||xh fb s [c]) with
 | true=>
   rw [hc] at hex
   unfold gT
   simp only [vz,hex,Yr]
   rfl
 | false=>
   rw [hc,pz] at hex
   rw [pz]
   refine cO (fun s'=>xx E live fb fl wt (some d) op (eval E.Γ ob d op (as.map (St.get ⟨s',ob⟩))) l k ⟨s',ob⟩) (fun s=>gT E live l k ⟨upd s d (.tup []),ob⟩) ?_ ?_ ?_ ?_
   ·intro h
    unfold gT xx
    simp only [vz,hex,h,yY,beq_self_eq_true]
    cases eval E.Γ ob d op (as.map (St.get ⟨s,ob⟩)) with
    | none=>rfl
    | some p=>
      cases p with
      | val a us=>
        simp only [Option.bind_some]
        cases k9 fb fl wt s op ob us with
        | true=>rfl
        | false=>simp only [pz,Option.bind_some]; rfl
      | pan z us=>
        simp only [Option.bind_some]
        cases lI E.ps.isEmpty fb us with
        | true=>rfl
        | false=>simp only [pz,Option.bind_some]
   ·rintro ⟨b,h,hne⟩
    have:(b == w)=false:=by simpa using hne
    unfold gT
    simp only [vz,hex,h,yY,this,Option.bind_some]
   ·intro h
    unfold gT
    simp only [vz,hex,h,yY,Option.bind_some]
   ·intro h
    unfold gT
    simp only [vz,hex,h]
    rfl
theorem JC (s:Nat→A) (ob:Nat→Ob) (live:List Nat) (c:Nat) (w:Bool) (d:Nat) (op:SOp) (as:List SA) (l:List SOper):
  gT E live (g c w d op as :: l) k ⟨s,ob⟩=gGd (s c) w (yi E live (some d) op (eval E.Γ ob d op (as.map (St.get ⟨upd s c (.d (.bool w)),ob⟩))) l k ⟨upd s c (.d (.bool w)),ob⟩)
   (gT E live l k ⟨upd (upd s c (.d (.bool !w))) d (.tup []),ob⟩) (gT E live l k ⟨upd s d (.tup []),ob⟩):=by
 have hex:pX E.Γ E.ps.isEmpty (g c w d op as) ⟨s,ob⟩=match yY (s c) w with
   | some true=>pX E.Γ E.ps.isEmpty (o d op as) ⟨s,ob⟩
   | some false=>some (.normal,⟨upd s d (.tup []),ob⟩)
   | none=>none:=rfl
 refine cO (fun s=>yi E live (some d) op (eval E.Γ ob d op (as.map (St.get ⟨s,ob⟩))) l k ⟨s,ob⟩) (fun s=>gT E live l k ⟨upd s d (.tup []),ob⟩) ?_ ?_ ?_ ?_
 ·intro h
  refine Eq.trans ?_ (ME (E:=E) (k:=k) (st:=⟨s,ob⟩) live d op as l)
  unfold gT
  simp only [vz,hex,h,yY,beq_self_eq_true]
 ·rintro ⟨b,h,hne⟩
  have:(b == w)=false:=by simpa using hne
  unfold gT
  simp only [vz,hex,h,yY,this,Option.bind_some]
 ·intro h
  unfold gT
  simp only [vz,hex,h,yY,Option.bind_some]
 ·intro h
  unfold gT
  simp only [vz,hex,h]
  rfl
theorem ZR (live:List Nat) (d:Nat) (op:SOp) (a:A) (l:List SOper):
  yi E live (some d) op (some (.val a [])) l k st=gT E live l k { slot:=upd st.slot d a,ob:=st.ob }:=by
 unfold yi
 simp [za,St.put]
theorem xF (live:List Nat) (d:Nat) (op:SOp) (hq:op.quiet=false) (a:A) (u:Nat×Ob) (us:List (Nat×Ob)) (l:List SOper):
  yi E live (some d) op (some (.val a (u :: us))) l k st=gT E live l k { slot:=upd st.slot d a,ob:=za st.ob (u :: us) }:=by
 unfold yi
 simp [hq,St.put]
theorem gI (live:List Nat) (op:SOp) (hq:op.quiet=false) (a:A) (us:List (Nat×Ob)) (l:List SOper):
  yi E live none op (some (.val a us)) l k st=gT E live l k { slot:=st.slot,ob:=za st.ob us }:=by
 unfold yi
 simp [hq,St.put]
theorem Wk (live:List Nat) (d:Option Nat) (op:SOp) (x:D) (us:List (Nat×Ob)) (l:List SOper):
  yi E live d op (some (.pan x us)) l k st=md E live k (.panic x,{ slot:=st.slot,ob:=za st.ob us }):=rfl
theorem Xl {α:Type} (live:List Nat) (d:Option Nat) (op:SOp) (x:Option α) (f:α→Option Out) (l:List SOper):
  yi E live d op (x.bind f) l k st=x.bind fun y=>yi E live d op (f y) l k st:=by
 unfold yi; rw [Option.bind_assoc]
theorem WT (live:List Nat) (d:Option Nat) (op:SOp) (p:Prop) [Decidable p] (x y:Option Out) (l:List SOper):
  yi E live d op (if p then x else y) l k st=if p then yi E live d op x l k st else yi E live d op y l k st:=by
 split <;> rfl
theorem T6 (live:List Nat) (d:Option Nat) (op:SOp) (l:List SOper):yi E live d op none l k st=none:=rfl
def oW (E:En) (dd:Option (List Nat×List Nat)) (e:Ex) (st:St):Option XOut:=(Oy E dd (e,st)).bind E.wk
@[congr] theorem Ky {E:En} {dd dd':Option (List Nat×List Nat)} {e:Ex} {st:St} (h:dd=dd'):oW E dd e st=oW E dd' e st:=by rw [h]
theorem Us (e:Ex):zM E [] (e,st)=oW E E.dd e st:=rfl
theorem Vh (e:Ex):oW E none e st=if uO st.ob E.ck=true then fin E (qD E.pl E.rs (e,st)) else none:=by
 show (if uO st.ob E.ck=true then qD E.pl E.rs (e,st) else none:Option XOut).bind E.wk=_
 split <;> rfl
theorem SW (x:List Nat×List Nat):oW E (some x) .ret st=oW E none .ret st:=rfl
theorem aI (x:List Nat×List Nat):oW E (some x) .normal st=oW E none .normal st:=rfl
def Su (da ids:List Nat) (ob:Nat→Ob):Out→Option St
 | .val _ us=>some { slot:=zj (um da ids),ob:=za ob us }
 | .pan .. =>none
theorem Tn (da ids:List Nat) (ob:Nat→Ob) (a:A) (us:List (Nat×Ob)):Su da ids ob (.val a us)=some ⟨zj (um da ids),za ob us⟩:=rfl
def Yp (E:En) (ids da:List Nat) (x:D) (ob:Nat→Ob):Option St:=(wq false ob (ids.map fun id=> .adr id 1 0)).bind fun p=>
 if (zF p.2.2&&!(p.2.2.any fun m=>p.2.1.any (· == m)))=true then (E.fd x p.1).bind fun outs=>(oT E.Γ ob 0 p.2.1 p.2.2 (.ret (.tup []) outs)).bind (Su da ids ob) else none
theorem Te (ps ids da:List Nat) (x:D):gV E.Γ E.fd ps ids da x st=Yp E ids da x (st.forget ps).ob:=by
 unfold gV Yp
 cases wq false (st.forget ps).ob (ids.map fun id=> .adr id 1 0) with
 | none=>rfl
 | some p=>
   obtain ⟨xs,ls,ms⟩:=p
   simp only [Option.bind_some]
   split
   ·cases E.fd x xs with
    | none=>rfl
    | some outs=>
      simp only [Option.bind_some]
      cases oT E.Γ (st.forget ps).ob 0 ls ms (.ret (.tup []) outs) with
      | none=>rfl
      | some o=>cases o <;> rfl
   ·rfl
def kp (ps:List Nat) (ob:Nat→Ob):List (Nat×Ob):=ps.map fun id=>(id,⟨(ob id).ver,tr ob (ob id).o,false⟩)
theorem Xw (ps:List Nat) (s:Nat→A) (ob:Nat→Ob):(St.forget ⟨s,ob⟩ ps)=⟨fun _=> .undef,zt (kp ps ob)⟩:=by
 unfold St.forget kp
 congr 1
 funext id
 show (if ps.any (· == id)=true then (⟨(ob id).ver,tr ob (ob id).o,false⟩:Ob) else {})=_
 induction ps with
 | nil=>rfl
 | cons p ps ih=>
   simp only [List.map_cons,zt,List.any_cons]
   by_cases h:id=p
   ·subst h; simp
   ·have:(p == id)=false:=by simpa using fun e=>h e.symm
    simp only [this,Bool.false_or,if_neg h]
    exact ih
def dZ (E:En) (ids da:List Nat) (x:D) (st:St):Option XOut:=(Yp E ids da x st.ob).bind fun st'=>oW E none .ret st'
theorem TW (ids da:List Nat) (x:D):oW E (some (ids,da)) (.panic x) st=dZ E ids da x (st.forget (E.pl++ids)):=by
 show ((gV E.Γ E.fd (E.pl++ids) ids da x st).bind fun st'=>rG E.pl E.ck E.rs (.ret,st')).bind E.wk=_
 rw [Te,Option.bind_assoc]; rfl
theorem Qe (ids da:List Nat) (x:D) (s:Nat→A) (ob:Nat→Ob):dZ E ids da x ⟨s,ob⟩=(wq false ob (ids.map fun id=> .adr id 1 0)).bind fun p=>
 if (zF p.2.2&&!(p.2.2.any fun m=>p.2.1.any (· == m)))=true then (E.fd x p.1).bind fun outs=>(oT E.Γ ob 0 p.2.1 p.2.2 (.ret (.tup []) outs)).bind fun o=>(Su da ids ob o).bind fun st'=>oW E none .ret st' else none:=by
 unfold dZ Yp
 rw [Option.bind_assoc]
 congr 1
 funext p
 split
 ·rw [Option.bind_assoc]
  congr 1
  funext outs
  rw [Option.bind_assoc]
 ·rfl
theorem Y1 (Γ:Ctx) (ob:Nat→Ob) (d:Nat) (ls ms:List Nat) (x:X) (outs:List (List D)):oT Γ ob d ls ms (.ret x outs)=
  (yG ob ms outs).bind fun bs=>some (.val (yB (za ob bs) ms x (ofX (za ob bs) d x 0).1) ((if (yq Γ.fl x&&outs.all sv)=true then [] else zl ob ls)++(bs++(ofX (za ob bs) d x 0).2.1))):=by
 simp only [oT]; cases yG ob ms outs <;> rfl
theorem bb:um [] []=[]:=rfl
theorem dB (t id:Nat) (ts ids:List Nat):um (t :: ts) (id :: ids)=(t,.adr id 1 0) :: um ts ids:=rfl
theorem Yz (ob:Nat→Ob):sQ ob []=some []:=rfl
theorem aY (ob:Nat→Ob) (id:Nat) (r:List A):sQ ob (.adr id 1 0 :: r)=if (ob id).ver=1∧(ob id).o.isBox=true then (sQ ob r).bind fun x=>some (id :: x) else none:=by
 simp only [sQ]
 split
 ·cases sQ ob r <;> rfl
 ·rfl
theorem Vg (cs:List A):O.isBox (.box cs)=true:=rfl
def gB (E:En) (b:Cd) (st:St):Option XOut:=G E b [] st
theorem IA (b:Cd):gB E b st=G E b [] st:=rfl
def gDf (E:En) (ids da:List Nat) (b:Cd) (x:Option St):Option XOut:=x.bind fun st=>gB (E.behind ids da) b st
@[congr] theorem Ja {E:En} {ids da:List Nat} {b:Cd} {x x':Option St} (h:x=x'):gDf E ids da b x=gDf E ids da b x':=by rw [h]
theorem TY (ids da:List Nat) (b:Cd):gDf E ids da b (some st)=gB (E.behind ids da) b st:=rfl
theorem JN (ids da:List Nat):(E.behind ids da).n=E.n:=rfl
theorem Re (ids da:List Nat) (p:Ex×St):zM (E.behind ids da) [] p=(ea E.Γ E.fd E.pl ids da E.ck E.rs p).bind E.wk:=rfl
theorem Ps (da keep:List Nat) (b:Cd) (s:Nat→A) (ob:Nat→Ob):zM E (.df da keep b :: k) (.normal,⟨s,ob⟩)=(sQ ob (da.map s)).bind fun ids=>gDf E ids da b (canon (E.ps++ids) keep ⟨s,ob⟩):=by
 rfl
theorem aS (da keep:List Nat) (b:Cd):zM E (.df da keep b :: k) (.ret,st)=zM E k (.ret,st):=rfl
theorem di (da keep:List Nat) (b:Cd) (y:D):zM E (.df da keep b :: k) (.panic y,st)=zM E k (.panic y,st):=rfl
theorem Nu (x:Cd):zM E (.c x :: k) (.normal,st)=G E x k st:=rfl
theorem Yg (x:Cd):zM E (.c x :: k) (.ret,st)=zM E k (.ret,st):=rfl
theorem aC (x:Cd) (j:Nat):zM E (.c x :: k) (.exit j,st)=zM E k (.exit j,st):=rfl
theorem dX (x:Cd) (y:D):zM E (.c x :: k) (.panic y,st)=zM E k (.panic y,st):=rfl
theorem O8 (id:Nat):zM E (.b id :: k) (.normal,st)=zM E k (.normal,st):=rfl
theorem YA (id:Nat):zM E (.b id :: k) (.ret,st)=zM E k (.ret,st):=rfl
theorem af (id j:Nat):zM E (.b id :: k) (.exit j,st)=if j=id then zM E k (.normal,st) else zM E k (.exit j,st):=rfl
theorem ce (id:Nat) (y:D):zM E (.b id :: k) (.panic y,st)=zM E k (.panic y,st):=rfl
theorem Im (live:List Nat) (s:Nat→A) (ob:Nat→Ob):zM E (.v live :: k) (.normal,⟨s,ob⟩)=zM E k (.normal,⟨zj (live.map fun n=>(n,s n)),ob⟩):=rfl
theorem cW (live:List Nat) (y:D):zM E (.v live :: k) (.panic y,st)=zM E k (.panic y,st):=rfl
theorem OA (keep:List Nat) (b:Cd) (m:Nat):zM E (.l keep b m :: k) (.normal,st)=gL E keep b m k st:=rfl
theorem ZV (keep:List Nat) (b:Cd) (m:Nat):zM E (.l keep b m :: k) (.ret,st)=zM E k (.ret,st):=rfl
theorem aB (keep:List Nat) (b:Cd) (m j:Nat):zM E (.l keep b m :: k) (.exit j,st)=zM E k (.exit j,st):=rfl
theorem bv (keep:List Nat) (b:Cd) (m:Nat) (y:D):zM E (.l keep b m :: k) (.panic y,st)=zM E k (.panic y,st):=rfl
theorem zR {Γ:Ctx} {n:Nat} (wk:XOut→Option XOut) (m:Nat) (c:Cd) (rs:List RV) (xs:List X) (h:xs.length=m∧xs.all rU=true∧zF ((enter 0 xs).2.map (·.1))=true):
  (sK Γ n m c rs xs).bind wk=G ⟨Γ,(enter 0 xs).2.map (·.1),(enter 0 xs).2.map (·.1),xG (enter 0 xs).2,n,rs,none,fun _ _=>none,wk⟩ c [] { slot:=zj (enter 0 xs).1,ob:=zt (enter 0 xs).2 }:=by
 unfold sK G
 rw [if_pos h,Option.bind_assoc]
 congr 1
theorem JP {Γ:Ctx} {FD:D→List X→Option (List (List D))} {n:Nat} (wk:XOut→Option XOut) (m:Nat) (a:Cd) (da keep:List Nat) (b:Cd) (rs:List RV) (xs:List X)
  (h:xs.length=m∧xs.all rU=true∧zF ((enter 0 xs).2.map (·.1))=true):
  (m4 Γ FD n m a da keep b rs xs).bind wk=G ⟨Γ,(enter 0 xs).2.map (·.1),(enter 0 xs).2.map (·.1),xG (enter 0 xs).2,n,rs,none,FD,wk⟩ a [.df da keep b] { slot:=zj (enter 0 xs).1,ob:=zt (enter 0 xs).2 }:=by
 unfold m4 G
 rw [if_pos h,Option.bind_assoc]
 congr 1
 funext p
 obtain ⟨e,st⟩:=p
 cases e with
 | normal=>
   simp only [zM]
   rw [Option.bind_assoc]
   congr 1
   funext ids
   rw [Option.bind_assoc]
   congr 1
   funext st'
   rw [Option.bind_assoc]
 | _=>rfl
theorem Ib {Γ:Ctx} {n:Nat} (m b:Nat) (c:Cd) (x:D) (xs:List X) (h:xs.length=m∧xs.all rU=true∧zF ((enter 0 xs).2.map (·.1))=true):
  jg Γ n m b c x xs=(G ⟨Γ,(enter 0 xs).2.map (·.1),(enter 0 xs).2.map (·.1),xG (enter 0 xs).2,n,[],none,fun _ _=>none,some⟩ c [] { slot:=zj ((b,.d x) :: (enter 0 xs).1),ob:=zt (enter 0 xs).2 }).bind fun
   | .ret (.tup []) outs=>some outs
   | _=>none:=by
 unfold jg G
 rw [if_pos h,Option.bind_assoc,Option.bind_assoc]
 congr 1
 funext p
 show (rG _ _ _ p).bind _=((rG _ _ _ p).bind some).bind _
 cases rG ((enter 0 xs).2.map (·.1)) (xG (enter 0 xs).2) [] p <;> rfl
end
end Go.Vm
