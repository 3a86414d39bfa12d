/- Running the abstract machine by rewriting, to the end of the call: every test that is open stays an 'if'. -/
import Derived.Test.YtpjfklhaogdfeaaVmEv
set_option linter.unusedSectionVars false
set_option linter.unusedSimpArgs false
set_option linter.unusedVariables false
namespace Go.Vm
inductive KJ where
 | c (x:Cd)
 | b (id:Nat)
 | v (live:List Nat)
 | l (keep:List Nat) (b:Cd) (m:Nat)
 | df (da keep:List Nat) (b:Cd)
structure En where
 Γ:Ctx
 ps:List Nat
 pl:List Nat
 ck:List (Nat×KO)
 n:Nat
 rs:List RV
 dd:Option (List Nat×List Nat)
 fd:D→List X→Option (List (List D))
 wk:XOut→Option XOut
def En.behind (E:En) (ids da:List Nat):En:={ E with ps:=E.ps++ids,dd:=some (ids,da) }
def Kq (E:En) (dd:Option (List Nat×List Nat)) (p:Ex×St):Option XOut:=match dd with
 | none=>q9 E.pl E.ck E.rs p
 | some (ids,da)=>dh E.Γ E.fd E.pl ids da E.ck E.rs p
def yg (E:En):List KJ→Ex×St→Option XOut
 | [],p=>(Kq E E.dd p).bind E.wk
 | .c x :: k,(.normal,st)=>(run E.Γ E.ps E.n x st).bind (yg E k)
 | .c _ :: k,(e,st)=>yg E k (e,st)
 | .b id :: k,(.exit j,st)=>if j=id then yg E k (.normal,st) else yg E k (.exit j,st)
 | .b _ :: k,(e,st)=>yg E k (e,st)
 | .v live :: k,(.normal,st)=>yg E k (.normal,st.only live)
 | .v _ :: k,(e,st)=>yg E k (e,st)
 | .l keep b m :: k,(.normal,st)=>(WZ E.Γ E.ps E.n keep b m st).bind (yg E k)
 | .l .. :: k,(e,st)=>yg E k (e,st)
 | .df da keep b :: _,(.normal,st)=>(qi st.ob (da.map st.slot)).bind fun ids=>(canon (E.ps++ids) keep st).bind fun st=>
     (run E.Γ (E.ps++ids) E.n b st).bind fun p=>(dh E.Γ E.fd E.pl ids da E.ck E.rs p).bind E.wk
 | .df .. :: k,(e,st)=>yg E k (e,st)
def fin (E:En) (x:Option XOut):Option XOut:=x.bind E.wk
def G (E:En) (c:Cd) (k:List KJ) (st:St):Option XOut:=(run E.Γ E.ps E.n c st).bind (yg E k)
def t7 (E:En) (l:List SOper) (k:List KJ) (st:St):Option XOut:=(rm E.Γ l st).bind (yg E k)
def vj (E:En) (d:Option Nat) (x:Option Out) (l:List SOper) (k:List KJ) (st:St):Option XOut:=x.bind fun
 | .val a us=>t7 E l k (({ st with ob:=za st.ob us }:St).put d a)
 | .pan x us=>yg E k (.panic x,{ st with ob:=za st.ob us })
def gSt (E:En) (k:List KJ) (e:Ex) (st:St):Option XOut:=yg E k (e,st)
def gL (E:En) (keep:List Nat) (b:Cd) (m:Nat) (k:List KJ) (st:St):Option XOut:=(WZ E.Γ E.ps E.n keep b m st).bind (yg E k)
def gH (E:En) (keep:List Nat) (b:Cd) (k:List KJ):Nat→St→Option XOut
 | 0,_=>none
 | m+1,st=>G E b (.l keep b m :: k) st
def gC (E:En) (keep:List Nat) (b:Cd) (m:Nat) (k:List KJ) (st:Option St):Option XOut:=match st with
 | some st=>gH E keep b k m st
 | none=>none
def ly (E:En) (live:List Nat) (k:List KJ):Ex×St→Option XOut
 | (.normal,st')=>yg E k (.normal,st'.only live)
 | (e,st')=>yg E k (e,st'.forget E.ps)
def gT (E:En) (live:List Nat) (l:List SOper) (k:List KJ) (st:St):Option XOut:=(uq E.Γ E.ps.isEmpty l st).bind (ly E live k)
def yI (E:En) (live:List Nat) (d:Option Nat) (op:SOp) (x:Option Out) (l:List SOper) (k:List KJ) (st:St):Option XOut:=x.bind fun
 | .val a us=>if op.quiet&&!us.isEmpty then none else gT E live l k (({ st with ob:=za st.ob us }:St).put d a)
 | .pan x us=>ly E live k (.panic x,{ st with ob:=za st.ob us })
def gIf {α:Type} (c:Option Bool) (x y:Option α):Option α:=match c with
 | some true=>x
 | some false=>y
 | none=>none
def br {α:Type} (c:Bool) (x y:Option α):Option α:=if c=true then x else y
section
variable {E:En} {k:List KJ} {st:St}
theorem Lh:G E .skip k st=yg E k (.normal,st):=rfl
theorem Jp:G E .ret k st=yg E k (.ret,st):=rfl
theorem Lt (id:Nat):G E (.exit id) k st=yg E k (.exit id,st):=rfl
theorem Hu (a b:Cd):G E (sq a b) k st=G E a (.c b :: k) st:=by
 unfold G sq
 simp only [run]
 cases h:run E.Γ E.ps E.n a st with
 | none=>rfl
 | some p=>obtain ⟨e,s⟩:=p; cases e <;> simp [yg]
theorem Od (id:Nat) (b:Cd):G E (.block id b) k st=G E b (.b id :: k) st:=by
 unfold G
 simp only [run]
 cases h:run E.Γ E.ps E.n b st with
 | none=>rfl
 | some p=>
   obtain ⟨e,s⟩:=p
   cases e <;> simp [yg]
   split <;> simp_all [yg]
theorem OD (b:Cd):G E (.scope b) k st=G E b k st:=by
 unfold G; simp only [run]
def gFz (E:En) (b:Cd) (k:List KJ) (st:St):A→Option XOut
 | .adr id ver _=>(xG st.ob id ver).bind fun cells=>(yp st.ob cells).bind fun p=>
     G E b k { slot:=st.slot,ob:=za st.ob (zo st.ob p.2++[(id,{ st.ob id with o:= .box (p.1.map dA) })]) }
 | _=>G E b k st
theorem JY (m:Nat) (b:Cd):G E (.frz m b) k st=gFz E b k st (st.slot m):=by
 unfold G gFz
 simp only [run,St.frz]
 cases st.slot m <;> try rfl
 rename_i id ver off
 dsimp only
 cases h:xG st.ob id ver with
 | none=>rfl
 | some cells=>
   simp only [Option.bind_some]
   cases h2:yp st.ob cells with
   | none=>rfl
   | some p=>rfl
theorem Kf (c:SA) (x y:Cd):G E (.cond c x y) k st=gIf (Xq (st.get c)) (G E x k st) (G E y k st):=by
 unfold G
 simp only [run]
 cases hc:st.get c with
 | d z=>
   cases z with
   | bool b=>cases b <;> simp [Xq,gIf]
   | _=>rfl
 | _=>rfl
theorem G_r (live:List Nat) (l:List SOper):G E (r live l) k st=t7 E l (.v live :: k) st:=by
 unfold G t7 r
 simp only [run]
 cases h:rm E.Γ l st with
 | none=>rfl
 | some p=>obtain ⟨e,s⟩:=p; cases e <;> simp [yg]
theorem Hc (watch live:List Nat) (l:List SOper):G E (rd watch live l) k st=gT E live l k st:=by
 unfold G gT rd
 simp only [run]
 cases h:uq E.Γ E.ps.isEmpty l st with
 | none=>rfl
 | some p=>
   obtain ⟨e,s⟩:=p
   cases e <;> rfl
theorem M6 (keep:List Nat) (b:Cd):G E (.loop keep b) k st=gL E keep b E.n k st:=rfl
theorem Js (keep:List Nat) (b:Cd) (m:Nat):gL E keep b m k st=gC E keep b m k (canon E.ps keep st):=by
 unfold gL WZ gC
 cases m with
 | zero=>cases canon E.ps keep st <;> rfl
 | succ m=>
   simp only [dT]
   cases canon E.ps keep st with
   | none=>rfl
   | some s=>
     simp only [Option.bind_some,gH,G]
     cases run E.Γ E.ps E.n b s with
     | none=>rfl
     | some p=>obtain ⟨e,s'⟩:=p; cases e <;> rfl
theorem Xj (keep:List Nat) (b:Cd) (m:Nat):gC E keep b m k (some st)=gH E keep b k m st:=rfl
theorem HF (keep:List Nat) (b:Cd):gH E keep b k 0 st=none:=rfl
theorem xF (keep:List Nat) (b:Cd) (m:Nat):gH E keep b k (m+1) st=G E b (.l keep b m :: k) st:=rfl
theorem QK:t7 E [] k st=yg E k (.normal,st):=rfl
theorem cQ (x:SOper) (l:List SOper) (h:x.guard=none):
  t7 E (x :: l) k st=vj E x.dst (eval E.Γ st.ob (x.dst.getD 0) x.op (x.args.map st.get)) l k st:=by
 unfold t7 vj
 simp only [rm,step,h]
 cases eval E.Γ st.ob (x.dst.getD 0) x.op (x.args.map st.get) with
 | none=>rfl
 | some p=>cases p <;> rfl
theorem LH (d:Nat) (op:SOp) (as:List SA) (l:List SOper):
  t7 E (o d op as :: l) k st=vj E (some d) (eval E.Γ st.ob d op (as.map st.get)) l k st:=cQ _ _ rfl
theorem Kd (op:SOp) (as:List SA) (l:List SOper):
  t7 E (e op as :: l) k st=vj E none (eval E.Γ st.ob 0 op (as.map st.get)) l k st:=cQ _ _ rfl
def gGd (a:A) (w:Bool) (x y z:Option XOut):Option XOut:=match a with
 | .d (.bool b)=>if b=w then x else y
 | .tup []=>z
 | _=>none
@[congr] theorem Ip {a a':A} {w:Bool} {x y z:Option XOut} (h:a=a'):gGd a w x y z=gGd a' w x y z:=by rw [h]
theorem Ph (b:Bool) (x y z:Option XOut):gGd (.d (.bool b)) true x y z=gIf (some b) x y:=by cases b <;> rfl
theorem Pd (b:Bool) (x y z:Option XOut):gGd (.d (.bool b)) false x y z=gIf (some b) y x:=by cases b <;> rfl
theorem Pb (w:Bool) (x y z:Option XOut):gGd (.tup []) w x y z=z:=rfl
theorem UB {α:Type} {s:Nat→α} {c:Nat} {a:α} (h:s c=a):upd s c a=s:=by
 funext n
 unfold upd
 split
 ·rename_i e; subst e; exact h.symm
 ·rfl
theorem aq {s:Nat→A} {c:Nat} {w:Bool} (f g:(Nat→A)→Option XOut) {r:Option XOut}
  (h1:s c= .d (.bool w)→r=f s) (h2:(∃ b,s c= .d (.bool b)∧b ≠ w)→r=g s) (h3:s c= .tup []→r=g s) (h4:xw (s c) w=none→r=none):
  r=gGd (s c) w (f (upd s c (.d (.bool w)))) (g (upd s c (.d (.bool !w)))) (g s):=by
 unfold gGd
 split
 ·rename_i b hb
  by_cases e:b=w
  ·subst e
   rw [if_pos rfl,UB hb]; exact h1 hb
  ·have:b=!w:=by cases b <;> cases w <;> first | rfl | exact absurd rfl e
   rw [if_neg e,h2 ⟨b,hb,e⟩,UB (by rw [hb,this])]
 ·rename_i hb; exact h3 hb
 ·rename_i a h5 h6
  refine h4 ?_
  unfold xw
  split
  ·rename_i b hb; exact absurd hb (h5 b)
  ·rename_i hb; exact absurd hb h6
  ·rfl
theorem MB (s:Nat→A) (ob:Nat→Ob) (c:Nat) (w:Bool) (d:Nat) (op:SOp) (as:List SA) (l:List SOper):
  t7 E (g c w d op as :: l) k ⟨s,ob⟩=gGd (s c) w (vj E (some d) (eval E.Γ ob d op (as.map (St.get ⟨upd s c (.d (.bool w)),ob⟩))) l k ⟨upd s c (.d (.bool w)),ob⟩)
   (t7 E l k ⟨upd (upd s c (.d (.bool !w))) d (.tup []),ob⟩) (t7 E l k ⟨upd s d (.tup []),ob⟩):=by
 have hst:step E.Γ (g c w d op as) ⟨s,ob⟩=match xw (s c) w with
   | some true=>(eval E.Γ ob d op (as.map (St.get ⟨s,ob⟩))).map (fun
     | Out.val a us=>(Ex.normal,({ slot:=s,ob:=za ob us }:St).put (some d) a)
     | .pan x us=>(.panic x,{ slot:=s,ob:=za ob us }))
   | some false=>some (.normal,⟨upd s d (.tup []),ob⟩)
   | none=>none:=rfl
 refine aq (fun s=>vj E (some d) (eval E.Γ ob d op (as.map (St.get ⟨s,ob⟩))) l k ⟨s,ob⟩) (fun s=>t7 E l k ⟨upd s d (.tup []),ob⟩) ?_ ?_ ?_ ?_
 ·intro h
  unfold t7 vj
  simp only [rm,hst,h,xw,beq_self_eq_true]
  cases eval E.Γ ob d op (as.map (St.get ⟨s,ob⟩)) with
  | none=>rfl
  | some p=>cases p <;> rfl
 ·rintro ⟨b,h,hne⟩
  have:(b == w)=false:=by simpa using hne
  unfold t7
  simp only [rm,hst,h,xw,this]
  rfl
 ·intro h
  unfold t7
  simp only [rm,hst,h,xw]
  rfl
 ·intro h
  unfold t7
  simp only [rm,hst,h]
  rfl
theorem Ts (d:Nat) (a:A) (l:List SOper):vj E (some d) (some (.val a [])) l k st=t7 E l k { slot:=upd st.slot d a,ob:=st.ob }:=rfl
theorem QS (d:Nat) (a:A) (u:Nat×Ob) (us:List (Nat×Ob)) (l:List SOper):
  vj E (some d) (some (.val a (u :: us))) l k st=t7 E l k { slot:=upd st.slot d a,ob:=za st.ob (u :: us) }:=rfl
theorem V6 (a:A) (us:List (Nat×Ob)) (l:List SOper):vj E none (some (.val a us)) l k st=t7 E l k { slot:=st.slot,ob:=za st.ob us }:=rfl
theorem SK (d:Option Nat) (x:D) (us:List (Nat×Ob)) (l:List SOper):
  vj E d (some (.pan x us)) l k st=yg E k (.panic x,{ slot:=st.slot,ob:=za st.ob us }):=rfl
theorem UQ {α:Type} (d:Option Nat) (x:Option α) (f:α→Option Out) (l:List SOper):
  vj E d (x.bind f) l k st=x.bind fun y=>vj E d (f y) l k st:=by
 unfold vj; rw [Option.bind_assoc]
theorem T5 (d:Option Nat) (p:Prop) [Decidable p] (x y:Option Out) (l:List SOper):
  vj E d (if p then x else y) l k st=if p then vj E d x l k st else vj E d y l k st:=by
 split <;> rfl
theorem Xe (d:Option Nat) (l:List SOper):vj E d none l k st=none:=rfl
theorem La (live:List Nat):gT E live [] k st=ly E live k (.normal,st):=rfl
theorem Ji (live:List Nat):ly E live k (.normal,st)=yg E k (.normal,st.only live):=rfl
theorem JZ (live:List Nat) (x:D):ly E live k (.panic x,st)=yg E k (.panic x,st.forget E.ps):=rfl
theorem Ok {Γ:Ctx} {c:Bool} {x:SOper} (h1:x.fb=[]) (h2:x.fl=false) (h3:x.guard=none) (h4:x.wt=[]) {st:St}:ny Γ c x st=(eval Γ st.ob (x.dst.getD 0) x.op (x.args.map st.get)).bind fun
  | .val a us=>if (x.op.quiet&&!us.isEmpty)=true then none else some (.normal,({ st with ob:=za st.ob us }:St).put x.dst a)
  | .pan z us=>some (.panic z,{ st with ob:=za st.ob us }):=by
 unfold ny
 rw [h1,h2,h3,h4]
 simp only [oV,kh,oP,Bool.and_false,Bool.false_and,Bool.or_false,Bool.false_eq_true,if_false,List.isEmpty_nil,Bool.true_or,if_true]
 rfl
theorem Pk (live:List Nat) {x:SOper} (h1:x.fb=[]) (h2:x.fl=false) (h3:x.guard=none) (h4:x.wt=[]) (l:List SOper):
  gT E live (x :: l) k st=yI E live x.dst x.op (eval E.Γ st.ob (x.dst.getD 0) x.op (x.args.map st.get)) l k st:=by
 unfold gT yI
 simp only [uq,Ok h1 h2 h3 h4]
 cases eval E.Γ st.ob (x.dst.getD 0) x.op (x.args.map st.get) with
 | none=>rfl
 | some p=>
   cases p with
   | val a us=>
     simp only [Option.bind_some]
     by_cases hq:(x.op.quiet&&!us.isEmpty)=true
     ·simp only [hq,if_true]; rfl
     ·simp only [hq]
      simp only [Bool.false_eq_true,if_false,Option.bind_some,gT]
   | pan z us=>rfl
theorem N3 (live:List Nat) (d:Nat) (op:SOp) (as:List SA) (l:List SOper):
  gT E live (o d op as :: l) k st=yI E live (some d) op (eval E.Γ st.ob d op (as.map st.get)) l k st:=Pk live rfl rfl rfl rfl l
theorem Hb (live:List Nat) (op:SOp) (as:List SA) (l:List SOper):
  gT E live (e op as :: l) k st=yI E live none op (eval E.Γ st.ob 0 op (as.map st.get)) l k st:=Pk live rfl rfl rfl rfl l
def ifN {α:Type} (c:Bool) (x:Option α):Option α:=match c with
 | true=>none
 | false=>x
@[congr] theorem In {α:Type} {c c':Bool} {x:Option α} (h:c=c'):ifN c x=ifN c' x:=by rw [h]
theorem XK {α:Type} (x:Option α):ifN true x=none:=rfl
theorem nh {α:Type} (x:Option α):ifN false x=x:=rfl
theorem Xm {α:Type} (c:Bool) (x:Option α):(if c=true then none else x)=ifN c x:=by cases c <;> rfl
def ne1:List (Nat×Ob)→Bool
 | [_]=>false
 | _=>true
theorem JG:ne1 []=true:=rfl
theorem Jx (u:Nat×Ob):ne1 [u]=false:=rfl
theorem Ie (u v:Nat×Ob) (r:List (Nat×Ob)):ne1 (u :: v :: r)=true:=rfl
theorem Tj (us:List (Nat×Ob)):(us.length != 1)=ne1 us:=by
 cases us with
 | nil=>rfl
 | cons u r=>cases r <;> simp [ne1]
def xc:List SA→List Nat
 | []=>[]
 | .t n :: r=>n :: xc r
 | .k _ :: r=>xc r
theorem cH (as:List SA):(as.filterMap fun | .t n=>some n | .k _=>none)=xc as:=by
 induction as with
 | nil=>rfl
 | cons a r ih=>cases a <;> simp [xc,ih]
theorem Ws:xc []=[]:=rfl
theorem RT (n:Nat) (r:List SA):xc (t n :: r)=n :: xc r:=rfl
theorem Sd (v:Int) (r:List SA):xc (i v :: r)=xc r:=rfl
theorem Rv (v:Bool) (r:List SA):xc (b v :: r)=xc r:=rfl
theorem QO (v:List UInt8) (r:List SA):xc (s v :: r)=xc r:=rfl
theorem RF (r:List SA):xc (n :: r)=xc r:=rfl
theorem Rw (a:A) (r:List SA):xc (.k a :: r)=xc r:=rfl
def xI (fb:List Nat) (s:Nat→A) (ns:List Nat):Bool:=ns.any fun n=>(zB (s n)).any fun i=>fb.any (· == i)
theorem Y6 {fb:List Nat} {st:St} {ns:List Nat}:oV fb st ns=xI fb st.slot ns:=by
 cases fb with
 | nil=>simp [oV,xI]
 | cons f fb=>rfl
theorem W4 (fb:List Nat) (s:Nat→A):xI fb s []=false:=rfl
theorem T4 (s:Nat→A) (ns:List Nat):xI [] s ns=false:=by simp [xI]
theorem Yh (fb:List Nat) (s:Nat→A) (m:Nat) (ns:List Nat):xI fb s (m :: ns)=((zB (s m)).any (fun i=>fb.any (· == i))||xI fb s ns):=rfl
theorem aN {fb:List Nat} {us:List (Nat×Ob)}:kh fb us=us.any fun p=>fb.any (· == p.1):=by
 cases fb with
 | nil=>simp [kh]
 | cons f fb=>rfl
theorem Tf (i v:Nat):zB (.row i v)=[i]:=by simp only [zB]
theorem Un (i v o:Nat):zB (.adr i v o)=[i]:=by simp only [zB]
theorem Tz (i v o:Nat):zB (.rad i v o)=[i]:=by simp only [zB]
theorem VW (cs:List A):zB (.agg cs)=yi cs:=by simp only [zB]
theorem UC (cs:List A):zB (.tup cs)=yi cs:=by simp only [zB]
theorem NE (x:D):zB (.d x)=[]:=by simp only [zB]
theorem VJ:zB .nil=[]:=by simp only [zB]
theorem Yu:zB .undef=[]:=by simp only [zB]
theorem Rx (cs:List D):zB (.cp cs)=[]:=by simp only [zB]
theorem Xv:yi []=[]:=by simp only [yi]
theorem Z0 (a:A) (r:List A):yi (a :: r)=zB a++yi r:=by simp only [yi]
def sb (wt:List Nat) (s:Nat→A) (T:List Nat):Bool:=wt.any fun n=>(xJ (s n)).any fun id=>T.any (· == id)
theorem cG {wt:List Nat} {st:St} {T:List Nat}:oP wt st T=sb wt st.slot T:=by
 cases wt with
 | nil=>simp [oP,sb]
 | cons f fb=>rfl
theorem aD (s:Nat→A) (T:List Nat):sb [] s T=false:=rfl
theorem WN (wt:List Nat) (s:Nat→A):sb wt s []=false:=by simp [sb]
theorem c7 (n:Nat) (wt:List Nat) (s:Nat→A) (T:List Nat):sb (n :: wt) s T=((xJ (s n)).any (fun id=>T.any (· == id))||sb wt s T):=rfl
def jD (fb:List Nat) (fl:Bool) (wt:List Nat) (s:Nat→A) (op:SOp) (ob:Nat→Ob) (us:List (Nat×Ob)):Bool:=
 (op.quiet&&!us.isEmpty)||(us.any fun p=>fb.any (· == p.1))||(fl&&ne1 us)||(!fl&&sb wt s (v8 op ob us))
theorem PR (fb:List Nat) (fl:Bool) (wt:List Nat) (s:Nat→A) (op:SOp) (ob:Nat→Ob) (us:List (Nat×Ob)):jD fb fl wt s op ob us=
 ((op.quiet&&!us.isEmpty)||(us.any fun p=>fb.any (· == p.1))||(fl&&ne1 us)||(!fl&&sb wt s (v8 op ob us))):=rfl
def kJ (c:Bool) (fb:List Nat) (us:List (Nat×Ob)):Bool:=!fb.isEmpty&&(!c||(us.any fun p=>fb.any (· == p.1)))
theorem OL (c:Bool) (fb:List Nat) (us:List (Nat×Ob)):kJ c fb us=(!fb.isEmpty&&(!c||(us.any fun p=>fb.any (· == p.1)))):=rfl
theorem aP {α:Type} (c:Bool) (fb:List Nat) (us:List (Nat×Ob)) (x:Option α):(if (fb.isEmpty||(c&&!(us.any fun p=>fb.any (· == p.1))))=true then x else none)=ifN (kJ c fb us) x:=by
 cases fb with
 | nil=>rfl
 | cons a fb=>
   unfold kJ
   cases c <;> cases (us.any fun p=>(a :: fb).any (· == p.1)) <;> rfl
def xU (E:En) (live:List Nat) (fb:List Nat) (fl:Bool) (wt:List Nat) (d:Option Nat) (op:SOp) (x:Option Out) (l:List SOper) (k:List KJ) (st:St):Option XOut:=x.bind fun
 | .val a us=>ifN (jD fb fl wt st.slot op st.ob us) (gT E live l k (({ st with ob:=za st.ob us }:St).put d a))
 | .pan x us=>ifN (kJ E.ps.isEmpty fb us) (ly E live k (.panic x,{ st with ob:=za st.ob us }))
@[congr] theorem Jf {v fb:List Nat} {fl:Bool} {wt:List Nat} {d:Option Nat} {op:SOp} {x x':Option Out} {l:List SOper} (h:x=x'):
   xU E v fb fl wt d op x l k st=xU E v fb fl wt d op x' l k st:=by rw [h]
theorem PG {Γ:Ctx} {c:Bool} {fb:List Nat} {fl:Bool} {wt:List Nat} {d:Option Nat} {op:SOp} {as:List SA}:ny Γ c ⟨d,op,as,none,fb,fl,wt⟩ st=ifN (xI fb st.slot (xc as)) ((eval Γ st.ob (d.getD 0) op (as.map st.get)).bind fun
  | .val a us=>ifN (jD fb fl wt st.slot op st.ob us) (some (.normal,({ st with ob:=za st.ob us }:St).put d a))
  | .pan z us=>ifN (kJ c fb us) (some (.panic z,{ st with ob:=za st.ob us }))):=by
 have hrd:(⟨d,op,as,none,fb,fl,wt⟩:SOper).reads=xc as:=by
  show (as.filterMap fun | .t n=>some n | .k _=>none)++[]=_
  rw [List.append_nil,cH]
 unfold ny
 rw [hrd]
 simp only [Y6,Xm,Tj,aN,cG]
 congr 2
 funext z
 cases z with
 | val a us=>rfl
 | pan x us=>exact aP ..
theorem Pl (live:List Nat) (fb:List Nat) (fl:Bool) (wt:List Nat) (d:Option Nat) (op:SOp) (as:List SA) (l:List SOper):
  gT E live (⟨d,op,as,none,fb,fl,wt⟩ :: l) k st=ifN (xI fb st.slot (xc as)) (xU E live fb fl wt d op (eval E.Γ st.ob (d.getD 0) op (as.map st.get)) l k st):=by
 unfold gT xU
 simp only [uq,PG]
 cases xI fb st.slot (xc as) with
 | true=>rfl
 | false=>
   simp only [nh]
   cases eval E.Γ st.ob (d.getD 0) op (as.map st.get) with
   | none=>rfl
   | some p=>
     cases p with
     | val a us=>
       simp only [Option.bind_some]
       cases jD fb fl wt st.slot op st.ob us with
       | true=>rfl
       | false=>simp only [nh,Option.bind_some]; rfl
     | pan z us=>
       simp only [Option.bind_some]
       cases kJ E.ps.isEmpty fb us with
       | true=>rfl
       | false=>simp only [nh,Option.bind_some]
theorem K1 (live:List Nat) (fb:List Nat) (fl:Bool) (wt:List Nat) (d:Nat) (op:SOp) (as:List SA) (l:List SOper):
  gT E live (ap fb fl wt (o d op as) :: l) k st=ifN (xI fb st.slot (xc as)) (xU E live fb fl wt (some d) op (eval E.Γ st.ob d op (as.map st.get)) l k st):=Pl ..
theorem LB (live:List Nat) (fb:List Nat) (fl:Bool) (wt:List Nat) (op:SOp) (as:List SA) (l:List SOper):
  gT E live (ap fb fl wt (e op as) :: l) k st=ifN (xI fb st.slot (xc as)) (xU E live fb fl wt none op (eval E.Γ st.ob 0 op (as.map st.get)) l k st):=Pl ..
theorem VL (live:List Nat) (fb:List Nat) (fl:Bool) (wt:List Nat) (d:Nat) (op:SOp) (a:A) (us:List (Nat×Ob)) (l:List SOper):
  xU E live fb fl wt (some d) op (some (.val a us)) l k st=ifN (jD fb fl wt st.slot op st.ob us) (gT E live l k { slot:=upd st.slot d a,ob:=za st.ob us }):=rfl
theorem XO (live:List Nat) (fb:List Nat) (fl:Bool) (wt:List Nat) (op:SOp) (a:A) (us:List (Nat×Ob)) (l:List SOper):
  xU E live fb fl wt none op (some (.val a us)) l k st=ifN (jD fb fl wt st.slot op st.ob us) (gT E live l k { slot:=st.slot,ob:=za st.ob us }):=rfl
theorem TL (live:List Nat) (fb:List Nat) (fl:Bool) (wt:List Nat) (d:Option Nat) (op:SOp) (x:D) (us:List (Nat×Ob)) (l:List SOper):
  xU E live fb fl wt d op (some (.pan x us)) l k st=ifN (kJ E.ps.isEmpty fb us) (ly E live k (.panic x,{ slot:=st.slot,ob:=za st.ob us })):=rfl
theorem X0 {α:Type} (live:List Nat) (fb:List Nat) (fl:Bool) (wt:List Nat) (d:Option Nat) (op:SOp) (x:Option α) (f:α→Option Out) (l:List SOper):
  xU E live fb fl wt d op (x.bind f) l k st=x.bind fun y=>xU E live fb fl wt d op (f y) l k st:=by
 unfold xU; rw [Option.bind_assoc]
theorem VF (live:List Nat) (fb:List Nat) (fl:Bool) (wt:List Nat) (d:Option Nat) (op:SOp) (p:Prop) [Decidable p] (x y:Option Out) (l:List SOper):
  xU E live fb fl wt d op (if p then x else y) l k st=if p then xU E live fb fl wt d op x l k st else xU E live fb fl wt d op y l k st:=by
 split <;> rfl
theorem So (live:List Nat) (fb:List Nat) (fl:Bool) (wt:List Nat) (d:Option Nat) (op:SOp) (l:List SOper):xU E live fb fl wt d op none l k st=none:=rfl
theorem Px (f:FuncId):SOp.quiet (.call f)=false:=rfl
theorem KE:SOp.quiet .dyn=false:=rfl
theorem KL:SOp.quiet .box=false:=rfl
theorem T2 (z:List A):SOp.quiet (.alloc z)=false:=rfl
theorem Ms (e s l:Nat):SOp.quiet (lit e s l)=false:=rfl
theorem Kj (e s b:Nat) (z:List D):SOp.quiet (.mkS e s b z)=false:=rfl
theorem KP (e s b:Nat):SOp.quiet (.app e s b)=false:=rfl
theorem J4 (n:Nat):SOp.quiet (.st n)=false:=rfl
theorem Pw {α:Type}:([]:List α).isEmpty=true:=rfl
theorem TO {α:Type} (a:α) (l:List α):(a :: l).isEmpty=false:=rfl
theorem Ml (s:Nat→A) (ob:Nat→Ob) (live:List Nat) (fb:List Nat) (fl:Bool) (wt:List Nat) (c:Nat) (w:Bool) (d:Nat) (op:SOp) (as:List SA) (l:List SOper):
  gT E live (ap fb fl wt (g c w d op as) :: l) k ⟨s,ob⟩=ifN (xI fb s (xc as)||xI fb s [c]) (gGd (s c) w (xU E live fb fl wt (some d) op (eval E.Γ ob d op (as.map (St.get ⟨upd s c (.d (.bool w)),ob⟩))) l k ⟨upd s c (.d (.bool w)),ob⟩)
   (gT E live l k ⟨upd (upd s c (.d (.bool !w))) d (.tup []),ob⟩) (gT E live l k ⟨upd s d (.tup []),ob⟩)):=by
 have hrd:oV (ap fb fl wt (g c w d op as)).fb ⟨s,ob⟩ (ap fb fl wt (g c w d op as)).reads=(xI fb s (xc as)||xI fb s [c]):=by
  rw [Y6]
  show xI fb s ((as.filterMap fun | .t n=>some n | .k _=>none)++[c])=_
  rw [cH]
  unfold xI
  rw [List.any_append]
 have hex:ny E.Γ E.ps.isEmpty (ap fb fl wt (g c w d op as)) ⟨s,ob⟩=ifN (xI fb s (xc as)||xI fb s [c]) (match xw (s c) w with
   | some true=>(eval E.Γ ob d op (as.map (St.get ⟨s,ob⟩))).bind fun
     | .val a us=>ifN (jD fb fl wt s op ob us) (some (.normal,({ slot:=s,ob:=za ob us }:St).put (some d) a))
     | .pan z us=>ifN (kJ E.ps.isEmpty fb us) (some (.panic z,{ slot:=s,ob:=za ob us }))
   | some false=>some (.normal,⟨upd s d (.tup []),ob⟩)
   | none=>none):=by
  rw [← hrd]
  unfold ny
  cases oV (ap fb fl wt (g c w d op as)).fb ⟨s,ob⟩ (ap fb fl wt (g c w d op as)).reads with
  | true=>rfl
  | false=>
    simp only [Bool.false_eq_true,if_false,nh]
    show (match xw (s c) w with
     | some true=>_
     | some false=>_
     | none=>_)=_
    cases xw (s c) w with
    | none=>rfl
    | some b=>
      cases b with
      | false=>rfl
      | true=>
        simp only [Xm,Tj,aN,cG]
        show (eval E.Γ ob d op (as.map (St.get ⟨s,ob⟩))).bind _=_
        congr 1
        funext z
        cases z with
        | val a us=>rfl
        | pan x us=>exact aP ..
 cases hc:(xI fb s (xc as)||xI fb s [c]) with
 | true=>
   rw [hc] at hex
   unfold gT
   simp only [uq,hex,XK]
   rfl
 | false=>
   rw [hc,nh] at hex
   rw [nh]
   refine aq (fun s'=>xU E live fb fl wt (some d) op (eval E.Γ ob d op (as.map (St.get ⟨s',ob⟩))) l k ⟨s',ob⟩) (fun s=>gT E live l k ⟨upd s d (.tup []),ob⟩) ?_ ?_ ?_ ?_
   ·intro h
    unfold gT xU
    simp only [uq,hex,h,xw,beq_self_eq_true]
    cases eval E.Γ ob d op (as.map (St.get ⟨s,ob⟩)) with
    | none=>rfl
    | some p=>
      cases p with
      | val a us=>
        simp only [Option.bind_some]
        cases jD fb fl wt s op ob us with
        | true=>rfl
        | false=>simp only [nh,Option.bind_some]; rfl
      | pan z us=>
        simp only [Option.bind_some]
        cases kJ E.ps.isEmpty fb us with
        | true=>rfl
        | false=>simp only [nh,Option.bind_some]
   ·rintro ⟨b,h,hne⟩
    have:(b == w)=false:=by simpa using hne
    unfold gT
    simp only [uq,hex,h,xw,this,Option.bind_some]
   ·intro h
    unfold gT
    simp only [uq,hex,h,xw,Option.bind_some]
   ·intro h
    unfold gT
    simp only [uq,hex,h]
    rfl
theorem Hv (s:Nat→A) (ob:Nat→Ob) (live:List Nat) (c:Nat) (w:Bool) (d:Nat) (op:SOp) (as:List SA) (l:List SOper):
  gT E live (g c w d op as :: l) k ⟨s,ob⟩=gGd (s c) w (yI E live (some d) op (eval E.Γ ob d op (as.map (St.get ⟨upd s c (.d (.bool w)),ob⟩))) l k ⟨upd s c (.d (.bool w)),ob⟩)
   (gT E live l k ⟨upd (upd s c (.d (.bool !w))) d (.tup []),ob⟩) (gT E live l k ⟨upd s d (.tup []),ob⟩):=by
 have hex:ny E.Γ E.ps.isEmpty (g c w d op as) ⟨s,ob⟩=match xw (s c) w with
   | some true=>ny E.Γ E.ps.isEmpty (o d op as) ⟨s,ob⟩
   | some false=>some (.normal,⟨upd s d (.tup []),ob⟩)
   | none=>none:=rfl
 refine aq (fun s=>yI E live (some d) op (eval E.Γ ob d op (as.map (St.get ⟨s,ob⟩))) l k ⟨s,ob⟩) (fun s=>gT E live l k ⟨upd s d (.tup []),ob⟩) ?_ ?_ ?_ ?_
 ·intro h
  refine Eq.trans ?_ (N3 (E:=E) (k:=k) (st:=⟨s,ob⟩) live d op as l)
  unfold gT
  simp only [uq,hex,h,xw,beq_self_eq_true]
 ·rintro ⟨b,h,hne⟩
  have:(b == w)=false:=by simpa using hne
  unfold gT
  simp only [uq,hex,h,xw,this,Option.bind_some]
 ·intro h
  unfold gT
  simp only [uq,hex,h,xw,Option.bind_some]
 ·intro h
  unfold gT
  simp only [uq,hex,h]
  rfl
theorem WP (live:List Nat) (d:Nat) (op:SOp) (a:A) (l:List SOper):
  yI E live (some d) op (some (.val a [])) l k st=gT E live l k { slot:=upd st.slot d a,ob:=st.ob }:=by
 unfold yI
 simp [za,St.put]
theorem wh (live:List Nat) (d:Nat) (op:SOp) (hq:op.quiet=false) (a:A) (u:Nat×Ob) (us:List (Nat×Ob)) (l:List SOper):
  yI E live (some d) op (some (.val a (u :: us))) l k st=gT E live l k { slot:=upd st.slot d a,ob:=za st.ob (u :: us) }:=by
 unfold yI
 simp [hq,St.put]
theorem ed (live:List Nat) (op:SOp) (hq:op.quiet=false) (a:A) (us:List (Nat×Ob)) (l:List SOper):
  yI E live none op (some (.val a us)) l k st=gT E live l k { slot:=st.slot,ob:=za st.ob us }:=by
 unfold yI
 simp [hq,St.put]
theorem Vk (live:List Nat) (d:Option Nat) (op:SOp) (x:D) (us:List (Nat×Ob)) (l:List SOper):
  yI E live d op (some (.pan x us)) l k st=ly E live k (.panic x,{ slot:=st.slot,ob:=za st.ob us }):=rfl
theorem XW {α:Type} (live:List Nat) (d:Option Nat) (op:SOp) (x:Option α) (f:α→Option Out) (l:List SOper):
  yI E live d op (x.bind f) l k st=x.bind fun y=>yI E live d op (f y) l k st:=by
 unfold yI; rw [Option.bind_assoc]
theorem Vv (live:List Nat) (d:Option Nat) (op:SOp) (p:Prop) [Decidable p] (x y:Option Out) (l:List SOper):
  yI E live d op (if p then x else y) l k st=if p then yI E live d op x l k st else yI E live d op y l k st:=by
 split <;> rfl
theorem Rc (live:List Nat) (d:Option Nat) (op:SOp) (l:List SOper):yI E live d op none l k st=none:=rfl
def my (E:En) (dd:Option (List Nat×List Nat)) (e:Ex) (st:St):Option XOut:=(Kq E dd (e,st)).bind E.wk
@[congr] theorem JT {E:En} {dd dd':Option (List Nat×List Nat)} {e:Ex} {st:St} (h:dd=dd'):my E dd e st=my E dd' e st:=by rw [h]
theorem SO (e:Ex):yg E [] (e,st)=my E E.dd e st:=rfl
theorem UJ (e:Ex):my E none e st=if tu st.ob E.ck=true then fin E (oC E.pl E.rs (e,st)) else none:=by
 show (if tu st.ob E.ck=true then oC E.pl E.rs (e,st) else none:Option XOut).bind E.wk=_
 split <;> rfl
theorem Ru (x:List Nat×List Nat):my E (some x) .ret st=my E none .ret st:=rfl
theorem Yo (x:List Nat×List Nat):my E (some x) .normal st=my E none .normal st:=rfl
def Qc (da ids:List Nat) (ob:Nat→Ob):Out→Option St
 | .val _ us=>some { slot:=zk (tf da ids),ob:=za ob us }
 | .pan .. =>none
theorem Qd (da ids:List Nat) (ob:Nat→Ob) (a:A) (us:List (Nat×Ob)):Qc da ids ob (.val a us)=some ⟨zk (tf da ids),za ob us⟩:=rfl
def W7 (E:En) (ids da:List Nat) (x:D) (ob:Nat→Ob):Option St:=(vc false ob (ids.map fun id=> .adr id 1 0)).bind fun p=>
 if (zV p.2.2&&!(p.2.2.any fun m=>p.2.1.any (· == m)))=true then (E.fd x p.1).bind fun outs=>(mf E.Γ ob 0 p.2.1 p.2.2 (.ret (.tup []) outs)).bind (Qc da ids ob) else none
theorem TP (ps ids da:List Nat) (x:D):eA E.Γ E.fd ps ids da x st=W7 E ids da x (st.forget ps).ob:=by
 unfold eA W7
 cases vc false (st.forget ps).ob (ids.map fun id=> .adr id 1 0) with
 | none=>rfl
 | some p=>
   obtain ⟨xs,ls,ms⟩:=p
   simp only [Option.bind_some]
   split
   ·cases E.fd x xs with
    | none=>rfl
    | some outs=>
      simp only [Option.bind_some]
      cases mf E.Γ (st.forget ps).ob 0 ls ms (.ret (.tup []) outs) with
      | none=>rfl
      | some o=>cases o <;> rfl
   ·rfl
def jU (ps:List Nat) (ob:Nat→Ob):List (Nat×Ob):=ps.map fun id=>(id,⟨(ob id).ver,s6 ob (ob id).o,false⟩)
theorem US (ps:List Nat) (s:Nat→A) (ob:Nat→Ob):(St.forget ⟨s,ob⟩ ps)=⟨fun _=> .undef,zw (jU ps ob)⟩:=by
 unfold St.forget jU
 congr 1
 funext id
 show (if ps.any (· == id)=true then (⟨(ob id).ver,s6 ob (ob id).o,false⟩:Ob) else {})=_
 induction ps with
 | nil=>rfl
 | cons p ps ih=>
   simp only [List.map_cons,zw,List.any_cons]
   by_cases h:id=p
   ·subst h; simp
   ·have:(p == id)=false:=by simpa using fun e=>h e.symm
    simp only [this,Bool.false_or,if_neg h]
    exact ih
def Zo (E:En) (ids da:List Nat) (x:D) (st:St):Option XOut:=(W7 E ids da x st.ob).bind fun st'=>my E none .ret st'
theorem Si (ids da:List Nat) (x:D):my E (some (ids,da)) (.panic x) st=Zo E ids da x (st.forget (E.pl++ids)):=by
 show ((eA E.Γ E.fd (E.pl++ids) ids da x st).bind fun st'=>q9 E.pl E.ck E.rs (.ret,st')).bind E.wk=_
 rw [TP,Option.bind_assoc]; rfl
theorem No (ids da:List Nat) (x:D) (s:Nat→A) (ob:Nat→Ob):Zo E ids da x ⟨s,ob⟩=(vc false ob (ids.map fun id=> .adr id 1 0)).bind fun p=>
 if (zV p.2.2&&!(p.2.2.any fun m=>p.2.1.any (· == m)))=true then (E.fd x p.1).bind fun outs=>(mf E.Γ ob 0 p.2.1 p.2.2 (.ret (.tup []) outs)).bind fun o=>(Qc da ids ob o).bind fun st'=>my E none .ret st' else none:=by
 unfold Zo W7
 rw [Option.bind_assoc]
 congr 1
 funext p
 split
 ·rw [Option.bind_assoc]
  congr 1
  funext outs
  rw [Option.bind_assoc]
 ·rfl
theorem WO (Γ:Ctx) (ob:Nat→Ob) (d:Nat) (ls ms:List Nat) (x:X) (outs:List (List D)):mf Γ ob d ls ms (.ret x outs)=
  (yX ob ms outs).bind fun bs=>some (.val (yS (za ob bs) ms x (ofX (za ob bs) d x 0).1) ((if (yO Γ.fl x&&outs.all rG)=true then [] else zo ob ls)++(bs++(ofX (za ob bs) d x 0).2.1))):=by
 simp only [mf]; cases yX ob ms outs <;> rfl
theorem ZL:tf [] []=[]:=rfl
theorem cW (t id:Nat) (ts ids:List Nat):tf (t :: ts) (id :: ids)=(t,.adr id 1 0) :: tf ts ids:=rfl
theorem XF (ob:Nat→Ob):qi ob []=some []:=rfl
theorem Yc (ob:Nat→Ob) (id:Nat) (r:List A):qi ob (.adr id 1 0 :: r)=if (ob id).ver=1∧(ob id).o.isBox=true then (qi ob r).bind fun x=>some (id :: x) else none:=by
 simp only [qi]
 split
 ·cases qi ob r <;> rfl
 ·rfl
theorem Uo (cs:List A):O.isBox (.box cs)=true:=rfl
def gB (E:En) (b:Cd) (st:St):Option XOut:=G E b [] st
theorem H0 (b:Cd):gB E b st=G E b [] st:=rfl
def gDf (E:En) (ids da:List Nat) (b:Cd) (x:Option St):Option XOut:=x.bind fun st=>gB (E.behind ids da) b st
@[congr] theorem Is {E:En} {ids da:List Nat} {b:Cd} {x x':Option St} (h:x=x'):gDf E ids da b x=gDf E ids da b x':=by rw [h]
theorem T9 (ids da:List Nat) (b:Cd):gDf E ids da b (some st)=gB (E.behind ids da) b st:=rfl
theorem I5 (ids da:List Nat):(E.behind ids da).n=E.n:=rfl
theorem Pg (ids da:List Nat) (p:Ex×St):yg (E.behind ids da) [] p=(dh E.Γ E.fd E.pl ids da E.ck E.rs p).bind E.wk:=rfl
theorem O4 (da keep:List Nat) (b:Cd) (s:Nat→A) (ob:Nat→Ob):yg E (.df da keep b :: k) (.normal,⟨s,ob⟩)=(qi ob (da.map s)).bind fun ids=>gDf E ids da b (canon (E.ps++ids) keep ⟨s,ob⟩):=by
 rfl
theorem YK (da keep:List Nat) (b:Cd):yg E (.df da keep b :: k) (.ret,st)=yg E k (.ret,st):=rfl
theorem bj (da keep:List Nat) (b:Cd) (y:D):yg E (.df da keep b :: k) (.panic y,st)=yg E k (.panic y,st):=rfl
theorem LO (x:Cd):yg E (.c x :: k) (.normal,st)=G E x k st:=rfl
theorem Wx (x:Cd):yg E (.c x :: k) (.ret,st)=yg E k (.ret,st):=rfl
theorem Yg (x:Cd) (j:Nat):yg E (.c x :: k) (.exit j,st)=yg E k (.exit j,st):=rfl
theorem Zj (x:Cd) (y:D):yg E (.c x :: k) (.panic y,st)=yg E k (.panic y,st):=rfl
theorem Lj (id:Nat):yg E (.b id :: k) (.normal,st)=yg E k (.normal,st):=rfl
theorem X1 (id:Nat):yg E (.b id :: k) (.ret,st)=yg E k (.ret,st):=rfl
theorem Z7 (id j:Nat):yg E (.b id :: k) (.exit j,st)=if j=id then yg E k (.normal,st) else yg E k (.exit j,st):=rfl
theorem ZP (id:Nat) (y:D):yg E (.b id :: k) (.panic y,st)=yg E k (.panic y,st):=rfl
theorem HT (live:List Nat) (s:Nat→A) (ob:Nat→Ob):yg E (.v live :: k) (.normal,⟨s,ob⟩)=yg E k (.normal,⟨zk (live.map fun n=>(n,s n)),ob⟩):=rfl
theorem bV (live:List Nat) (y:D):yg E (.v live :: k) (.panic y,st)=yg E k (.panic y,st):=rfl
theorem Mt (keep:List Nat) (b:Cd) (m:Nat):yg E (.l keep b m :: k) (.normal,st)=gL E keep b m k st:=rfl
theorem Wv (keep:List Nat) (b:Cd) (m:Nat):yg E (.l keep b m :: k) (.ret,st)=yg E k (.ret,st):=rfl
theorem YM (keep:List Nat) (b:Cd) (m j:Nat):yg E (.l keep b m :: k) (.exit j,st)=yg E k (.exit j,st):=rfl
theorem ZI (keep:List Nat) (b:Cd) (m:Nat) (y:D):yg E (.l keep b m :: k) (.panic y,st)=yg E k (.panic y,st):=rfl
theorem yf {Γ:Ctx} {n:Nat} (wk:XOut→Option XOut) (m:Nat) (c:Cd) (rs:List RV) (xs:List X) (h:xs.length=m∧xs.all pC=true∧zV ((enter 0 xs).2.map (·.1))=true):
  (rV Γ n m c rs xs).bind wk=G ⟨Γ,(enter 0 xs).2.map (·.1),(enter 0 xs).2.map (·.1),wj (enter 0 xs).2,n,rs,none,fun _ _=>none,wk⟩ c [] { slot:=zk (enter 0 xs).1,ob:=zw (enter 0 xs).2 }:=by
 unfold rV G
 rw [if_pos h,Option.bind_assoc]
 congr 1
theorem IK {Γ:Ctx} {FD:D→List X→Option (List (List D))} {n:Nat} (wk:XOut→Option XOut) (m:Nat) (a:Cd) (da keep:List Nat) (b:Cd) (rs:List RV) (xs:List X)
  (h:xs.length=m∧xs.all pC=true∧zV ((enter 0 xs).2.map (·.1))=true):
  (lI Γ FD n m a da keep b rs xs).bind wk=G ⟨Γ,(enter 0 xs).2.map (·.1),(enter 0 xs).2.map (·.1),wj (enter 0 xs).2,n,rs,none,FD,wk⟩ a [.df da keep b] { slot:=zk (enter 0 xs).1,ob:=zw (enter 0 xs).2 }:=by
 unfold lI G
 rw [if_pos h,Option.bind_assoc]
 congr 1
 funext p
 obtain ⟨e,st⟩:=p
 cases e with
 | normal=>
   simp only [yg]
   rw [Option.bind_assoc]
   congr 1
   funext ids
   rw [Option.bind_assoc]
   congr 1
   funext st'
   rw [Option.bind_assoc]
 | _=>rfl
theorem HG {Γ:Ctx} {n:Nat} (m b:Nat) (c:Cd) (x:D) (xs:List X) (h:xs.length=m∧xs.all pC=true∧zV ((enter 0 xs).2.map (·.1))=true):
  iJ Γ n m b c x xs=(G ⟨Γ,(enter 0 xs).2.map (·.1),(enter 0 xs).2.map (·.1),wj (enter 0 xs).2,n,[],none,fun _ _=>none,some⟩ c [] { slot:=zk ((b,.d x) :: (enter 0 xs).1),ob:=zw (enter 0 xs).2 }).bind fun
   | .ret (.tup []) outs=>some outs
   | _=>none:=by
 unfold iJ G
 rw [if_pos h,Option.bind_assoc,Option.bind_assoc]
 congr 1
 funext p
 show (q9 _ _ _ p).bind _=((q9 _ _ _ p).bind some).bind _
 cases q9 ((enter 0 xs).2.map (·.1)) (wj (enter 0 xs).2) [] p <;> rfl
end
end Go.Vm
