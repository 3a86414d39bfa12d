/- Running the abstract machine by rewriting, to the end of the call: every test that is open stays an 'if'. -/
import Derived.Test.YtpjfklhaogdfeaaVmEv
set_option linter.unusedSectionVars false
set_option linter.unusedSimpArgs false
set_option linter.unusedVariables false
namespace Go.Vm
inductive KJ where
 | c (x:Cd)
 | b (id:Nat)
 | v (live:List Nat)
 | l (keep:List Nat) (b:Cd) (m:Nat)
 | df (da keep:List Nat) (b:Cd)
structure En where
 Γ:Ctx
 ps:List Nat
 pl:List Nat
 ck:List (Nat×KO)
 n:Nat
 rs:List RV
 dd:Option (List Nat×List Nat)
 fd:D→List X→Option (List (List D))
 wk:XOut→Option XOut
def En.behind (E:En) (ids da:List Nat):En:={ E with ps:=E.ps++ids,dd:=some (ids,da) }
def J7 (E:En) (dd:Option (List Nat×List Nat)) (p:Ex×St):Option XOut:=match dd with
 | none=>oq E.pl E.ck E.rs p
 | some (ids,da)=>bH E.Γ E.fd E.pl ids da E.ck E.rs p
def yk (E:En):List KJ→Ex×St→Option XOut
 | [],p=>(J7 E E.dd p).bind E.wk
 | .c x :: k,(.normal,st)=>(run E.Γ E.ps E.n x st).bind (yk E k)
 | .c _ :: k,(e,st)=>yk E k (e,st)
 | .b id :: k,(.exit j,st)=>if j=id then yk E k (.normal,st) else yk E k (.exit j,st)
 | .b _ :: k,(e,st)=>yk E k (e,st)
 | .v live :: k,(.normal,st)=>yk E k (.normal,st.only live)
 | .v _ :: k,(e,st)=>yk E k (e,st)
 | .l keep b m :: k,(.normal,st)=>(VY E.Γ E.ps E.n keep b m st).bind (yk E k)
 | .l .. :: k,(e,st)=>yk E k (e,st)
 | .df da keep b :: _,(.normal,st)=>(pA st.ob (da.map st.slot)).bind fun ids=>(canon (E.ps++ids) keep st).bind fun st=>
     (run E.Γ (E.ps++ids) E.n b st).bind fun p=>(bH E.Γ E.fd E.pl ids da E.ck E.rs p).bind E.wk
 | .df .. :: k,(e,st)=>yk E k (e,st)
def fin (E:En) (x:Option XOut):Option XOut:=x.bind E.wk
def G (E:En) (c:Cd) (k:List KJ) (st:St):Option XOut:=(run E.Γ E.ps E.n c st).bind (yk E k)
def rx (E:En) (l:List SOper) (k:List KJ) (st:St):Option XOut:=(qB E.Γ l st).bind (yk E k)
def vS (E:En) (d:Option Nat) (x:Option Out) (l:List SOper) (k:List KJ) (st:St):Option XOut:=x.bind fun
 | .val a us=>rx E l k (({ st with ob:=zh st.ob us }:St).put d a)
 | .pan x us=>yk E k (.panic x,{ st with ob:=zh st.ob us })
def gSt (E:En) (k:List KJ) (e:Ex) (st:St):Option XOut:=yk E k (e,st)
def gL (E:En) (keep:List Nat) (b:Cd) (m:Nat) (k:List KJ) (st:St):Option XOut:=(VY E.Γ E.ps E.n keep b m st).bind (yk E k)
def gH (E:En) (keep:List Nat) (b:Cd) (k:List KJ):Nat→St→Option XOut
 | 0,_=>none
 | m+1,st=>G E b (.l keep b m :: k) st
def gC (E:En) (keep:List Nat) (b:Cd) (m:Nat) (k:List KJ) (st:Option St):Option XOut:=match st with
 | some st=>gH E keep b k m st
 | none=>none
def kR (E:En) (live:List Nat) (k:List KJ):Ex×St→Option XOut
 | (.normal,st')=>yk E k (.normal,st'.only live)
 | (e,st')=>yk E k (e,st'.forget E.ps)
def gT (E:En) (live:List Nat) (l:List SOper) (k:List KJ) (st:St):Option XOut:=(uS E.Γ E.ps.isEmpty l st).bind (kR E live k)
def yO (E:En) (live:List Nat) (d:Option Nat) (op:SOp) (x:Option Out) (l:List SOper) (k:List KJ) (st:St):Option XOut:=x.bind fun
 | .val a us=>if op.quiet&&!us.isEmpty then none else gT E live l k (({ st with ob:=zh st.ob us }:St).put d a)
 | .pan x us=>kR E live k (.panic x,{ st with ob:=zh st.ob us })
def gIf {α:Type} (c:Option Bool) (x y:Option α):Option α:=match c with
 | some true=>x
 | some false=>y
 | none=>none
def br {α:Type} (c:Bool) (x y:Option α):Option α:=if c=true then x else y
section
variable {E:En} {k:List KJ} {st:St}
theorem Ls:G E .skip k st=yk E k (.normal,st):=rfl
theorem HO:G E .ret k st=yk E k (.ret,st):=rfl
theorem Im (id:Nat):G E (.exit id) k st=yk E k (.exit id,st):=rfl
theorem Gs (a b:Cd):G E (sq a b) k st=G E a (.c b :: k) st:=by
 unfold G sq
 simp only [run]
 cases h:run E.Γ E.ps E.n a st with
 | none=>rfl
 | some p=>obtain ⟨e,s⟩:=p; cases e <;> simp [yk]
theorem Mn (id:Nat) (b:Cd):G E (.block id b) k st=G E b (.b id :: k) st:=by
 unfold G
 simp only [run]
 cases h:run E.Γ E.ps E.n b st with
 | none=>rfl
 | some p=>
   obtain ⟨e,s⟩:=p
   cases e <;> simp [yk]
   split <;> simp_all [yk]
theorem NN (b:Cd):G E (.scope b) k st=G E b k st:=by
 unfold G; simp only [run]
def gFz (E:En) (b:Cd) (k:List KJ) (st:St):A→Option XOut
 | .adr id ver _=>(wa st.ob id ver).bind fun cells=>(yH st.ob cells).bind fun p=>
     G E b k { slot:=st.slot,ob:=zh st.ob (zt st.ob p.2++[(id,{ st.ob id with o:= .box (p.1.map dA) })]) }
 | _=>G E b k st
theorem Hs (m:Nat) (b:Cd):G E (.frz m b) k st=gFz E b k st (st.slot m):=by
 unfold G gFz
 simp only [run,St.frz]
 cases st.slot m <;> try rfl
 rename_i id ver off
 dsimp only
 cases h:wa st.ob id ver with
 | none=>rfl
 | some cells=>
   simp only [Option.bind_some]
   cases h2:yH st.ob cells with
   | none=>rfl
   | some p=>rfl
theorem K8 (c:SA) (x y:Cd):G E (.cond c x y) k st=gIf (Uo (st.get c)) (G E x k st) (G E y k st):=by
 unfold G
 simp only [run]
 cases hc:st.get c with
 | d z=>
   cases z with
   | bool b=>cases b <;> simp [Uo,gIf]
   | _=>rfl
 | _=>rfl
theorem G_r (live:List Nat) (l:List SOper):G E (r live l) k st=rx E l (.v live :: k) st:=by
 unfold G rx r
 simp only [run]
 cases h:qB E.Γ l st with
 | none=>rfl
 | some p=>obtain ⟨e,s⟩:=p; cases e <;> simp [yk]
theorem Gw (watch live:List Nat) (l:List SOper):G E (rd watch live l) k st=gT E live l k st:=by
 unfold G gT rd
 simp only [run]
 cases h:uS E.Γ E.ps.isEmpty l st with
 | none=>rfl
 | some p=>
   obtain ⟨e,s⟩:=p
   cases e <;> rfl
theorem Ia (keep:List Nat) (b:Cd):G E (.loop keep b) k st=gL E keep b E.n k st:=rfl
theorem Ht (keep:List Nat) (b:Cd) (m:Nat):gL E keep b m k st=gC E keep b m k (canon E.ps keep st):=by
 unfold gL VY gC
 cases m with
 | zero=>cases canon E.ps keep st <;> rfl
 | succ m=>
   simp only [bv]
   cases canon E.ps keep st with
   | none=>rfl
   | some s=>
     simp only [Option.bind_some,gH,G]
     cases run E.Γ E.ps E.n b s with
     | none=>rfl
     | some p=>obtain ⟨e,s'⟩:=p; cases e <;> rfl
theorem WS (keep:List Nat) (b:Cd) (m:Nat):gC E keep b m k (some st)=gH E keep b k m st:=rfl
theorem FB (keep:List Nat) (b:Cd):gH E keep b k 0 st=none:=rfl
theorem xi (keep:List Nat) (b:Cd) (m:Nat):gH E keep b k (m+1) st=G E b (.l keep b m :: k) st:=rfl
theorem Pq:rx E [] k st=yk E k (.normal,st):=rfl
theorem aI (x:SOper) (l:List SOper) (h:x.guard=none):
  rx E (x :: l) k st=vS E x.dst (eval E.Γ st.ob (x.dst.getD 0) x.op (x.args.map st.get)) l k st:=by
 unfold rx vS
 simp only [qB,step,h]
 cases eval E.Γ st.ob (x.dst.getD 0) x.op (x.args.map st.get) with
 | none=>rfl
 | some p=>cases p <;> rfl
theorem KC (d:Nat) (op:SOp) (as:List SA) (l:List SOper):
  rx E (o d op as :: l) k st=vS E (some d) (eval E.Γ st.ob d op (as.map st.get)) l k st:=aI _ _ rfl
theorem KY (op:SOp) (as:List SA) (l:List SOper):
  rx E (e op as :: l) k st=vS E none (eval E.Γ st.ob 0 op (as.map st.get)) l k st:=aI _ _ rfl
def gGd (a:A) (w:Bool) (x y z:Option XOut):Option XOut:=match a with
 | .d (.bool b)=>if b=w then x else y
 | .tup []=>z
 | _=>none
@[congr] theorem H9 {a a':A} {w:Bool} {x y z:Option XOut} (h:a=a'):gGd a w x y z=gGd a' w x y z:=by rw [h]
theorem OS (b:Bool) (x y z:Option XOut):gGd (.d (.bool b)) true x y z=gIf (some b) x y:=by cases b <;> rfl
theorem Oz (b:Bool) (x y z:Option XOut):gGd (.d (.bool b)) false x y z=gIf (some b) y x:=by cases b <;> rfl
theorem OB (w:Bool) (x y z:Option XOut):gGd (.tup []) w x y z=z:=rfl
theorem TK {α:Type} {s:Nat→α} {c:Nat} {a:α} (h:s c=a):upd s c a=s:=by
 funext n
 unfold upd
 split
 ·rename_i e; subst e; exact h.symm
 ·rfl
theorem Yv {s:Nat→A} {c:Nat} {w:Bool} (f g:(Nat→A)→Option XOut) {r:Option XOut}
  (h1:s c= .d (.bool w)→r=f s) (h2:(∃ b,s c= .d (.bool b)∧b ≠ w)→r=g s) (h3:s c= .tup []→r=g s) (h4:xQ (s c) w=none→r=none):
  r=gGd (s c) w (f (upd s c (.d (.bool w)))) (g (upd s c (.d (.bool !w)))) (g s):=by
 unfold gGd
 split
 ·rename_i b hb
  by_cases e:b=w
  ·subst e
   rw [if_pos rfl,TK hb]; exact h1 hb
  ·have:b=!w:=by cases b <;> cases w <;> first | rfl | exact absurd rfl e
   rw [if_neg e,h2 ⟨b,hb,e⟩,TK (by rw [hb,this])]
 ·rename_i hb; exact h3 hb
 ·rename_i a h5 h6
  refine h4 ?_
  unfold xQ
  split
  ·rename_i b hb; exact absurd hb (h5 b)
  ·rename_i hb; exact absurd hb h6
  ·rfl
theorem Ip (s:Nat→A) (ob:Nat→Ob) (c:Nat) (w:Bool) (d:Nat) (op:SOp) (as:List SA) (l:List SOper):
  rx E (g c w d op as :: l) k ⟨s,ob⟩=gGd (s c) w (vS E (some d) (eval E.Γ ob d op (as.map (St.get ⟨upd s c (.d (.bool w)),ob⟩))) l k ⟨upd s c (.d (.bool w)),ob⟩)
   (rx E l k ⟨upd (upd s c (.d (.bool !w))) d (.tup []),ob⟩) (rx E l k ⟨upd s d (.tup []),ob⟩):=by
 have hst:step E.Γ (g c w d op as) ⟨s,ob⟩=match xQ (s c) w with
   | some true=>(eval E.Γ ob d op (as.map (St.get ⟨s,ob⟩))).map (fun
     | Out.val a us=>(Ex.normal,({ slot:=s,ob:=zh ob us }:St).put (some d) a)
     | .pan x us=>(.panic x,{ slot:=s,ob:=zh ob us }))
   | some false=>some (.normal,⟨upd s d (.tup []),ob⟩)
   | none=>none:=rfl
 refine Yv (fun s=>vS E (some d) (eval E.Γ ob d op (as.map (St.get ⟨s,ob⟩))) l k ⟨s,ob⟩) (fun s=>rx E l k ⟨upd s d (.tup []),ob⟩) ?_ ?_ ?_ ?_
 ·intro h
  unfold rx vS
  simp only [qB,hst,h,xQ,beq_self_eq_true]
  cases eval E.Γ ob d op (as.map (St.get ⟨s,ob⟩)) with
  | none=>rfl
  | some p=>cases p <;> rfl
 ·rintro ⟨b,h,hne⟩
  have:(b == w)=false:=by simpa using hne
  unfold rx
  simp only [qB,hst,h,xQ,this]
  rfl
 ·intro h
  unfold rx
  simp only [qB,hst,h,xQ]
  rfl
 ·intro h
  unfold rx
  simp only [qB,hst,h]
  rfl
theorem T3 (d:Nat) (a:A) (l:List SOper):vS E (some d) (some (.val a [])) l k st=rx E l k { slot:=upd st.slot d a,ob:=st.ob }:=rfl
theorem QQ (d:Nat) (a:A) (u:Nat×Ob) (us:List (Nat×Ob)) (l:List SOper):
  vS E (some d) (some (.val a (u :: us))) l k st=rx E l k { slot:=upd st.slot d a,ob:=zh st.ob (u :: us) }:=rfl
theorem Tg (a:A) (us:List (Nat×Ob)) (l:List SOper):vS E none (some (.val a us)) l k st=rx E l k { slot:=st.slot,ob:=zh st.ob us }:=rfl
theorem QK (d:Option Nat) (x:D) (us:List (Nat×Ob)) (l:List SOper):
  vS E d (some (.pan x us)) l k st=yk E k (.panic x,{ slot:=st.slot,ob:=zh st.ob us }):=rfl
theorem Sg {α:Type} (d:Option Nat) (x:Option α) (f:α→Option Out) (l:List SOper):
  vS E d (x.bind f) l k st=x.bind fun y=>vS E d (f y) l k st:=by
 unfold vS; rw [Option.bind_assoc]
theorem P7 (d:Option Nat) (p:Prop) [Decidable p] (x y:Option Out) (l:List SOper):
  vS E d (if p then x else y) l k st=if p then vS E d x l k st else vS E d y l k st:=by
 split <;> rfl
theorem WI (d:Option Nat) (l:List SOper):vS E d none l k st=none:=rfl
theorem IB (live:List Nat):gT E live [] k st=kR E live k (.normal,st):=rfl
theorem IN (live:List Nat):kR E live k (.normal,st)=yk E k (.normal,st.only live):=rfl
theorem Ha (live:List Nat) (x:D):kR E live k (.panic x,st)=yk E k (.panic x,st.forget E.ps):=rfl
theorem Nk {Γ:Ctx} {c:Bool} {x:SOper} (h1:x.fb=[]) (h2:x.fl=false) (h3:x.guard=none) (h4:x.wt=[]) {st:St}:mO Γ c x st=(eval Γ st.ob (x.dst.getD 0) x.op (x.args.map st.get)).bind fun
  | .val a us=>if (x.op.quiet&&!us.isEmpty)=true then none else some (.normal,({ st with ob:=zh st.ob us }:St).put x.dst a)
  | .pan z us=>some (.panic z,{ st with ob:=zh st.ob us }):=by
 unfold mO
 rw [h1,h2,h3,h4]
 simp only [mh,ii,n9,Bool.and_false,Bool.false_and,Bool.or_false,Bool.false_eq_true,if_false,List.isEmpty_nil,Bool.true_or,if_true]
 rfl
theorem OT (live:List Nat) {x:SOper} (h1:x.fb=[]) (h2:x.fl=false) (h3:x.guard=none) (h4:x.wt=[]) (l:List SOper):
  gT E live (x :: l) k st=yO E live x.dst x.op (eval E.Γ st.ob (x.dst.getD 0) x.op (x.args.map st.get)) l k st:=by
 unfold gT yO
 simp only [uS,Nk h1 h2 h3 h4]
 cases eval E.Γ st.ob (x.dst.getD 0) x.op (x.args.map st.get) with
 | none=>rfl
 | some p=>
   cases p with
   | val a us=>
     simp only [Option.bind_some]
     by_cases hq:(x.op.quiet&&!us.isEmpty)=true
     ·simp only [hq,if_true]; rfl
     ·simp only [hq]
      simp only [Bool.false_eq_true,if_false,Option.bind_some,gT]
   | pan z us=>rfl
theorem Ir (live:List Nat) (d:Nat) (op:SOp) (as:List SA) (l:List SOper):
  gT E live (o d op as :: l) k st=yO E live (some d) op (eval E.Γ st.ob d op (as.map st.get)) l k st:=OT live rfl rfl rfl rfl l
theorem Gy (live:List Nat) (op:SOp) (as:List SA) (l:List SOper):
  gT E live (e op as :: l) k st=yO E live none op (eval E.Γ st.ob 0 op (as.map st.get)) l k st:=OT live rfl rfl rfl rfl l
def ifN {α:Type} (c:Bool) (x:Option α):Option α:=match c with
 | true=>none
 | false=>x
@[congr] theorem H4 {α:Type} {c c':Bool} {x:Option α} (h:c=c'):ifN c x=ifN c' x:=by rw [h]
theorem W9 {α:Type} (x:Option α):ifN true x=none:=rfl
theorem mf {α:Type} (x:Option α):ifN false x=x:=rfl
theorem Ws {α:Type} (c:Bool) (x:Option α):(if c=true then none else x)=ifN c x:=by cases c <;> rfl
def ne1:List (Nat×Ob)→Bool
 | [_]=>false
 | _=>true
theorem HB:ne1 []=true:=rfl
theorem HE (u:Nat×Ob):ne1 [u]=false:=rfl
theorem HP (u v:Nat×Ob) (r:List (Nat×Ob)):ne1 (u :: v :: r)=true:=rfl
theorem SS (us:List (Nat×Ob)):(us.length != 1)=ne1 us:=by
 cases us with
 | nil=>rfl
 | cons u r=>cases r <;> simp [ne1]
def xk:List SA→List Nat
 | []=>[]
 | .t n :: r=>n :: xk r
 | .k _ :: r=>xk r
theorem aR (as:List SA):(as.filterMap fun | .t n=>some n | .k _=>none)=xk as:=by
 induction as with
 | nil=>rfl
 | cons a r ih=>cases a <;> simp [xk,ih]
theorem VN:xk []=[]:=rfl
theorem RP (n:Nat) (r:List SA):xk (t n :: r)=n :: xk r:=rfl
theorem RN (v:Int) (r:List SA):xk (i v :: r)=xk r:=rfl
theorem R7 (v:Bool) (r:List SA):xk (b v :: r)=xk r:=rfl
theorem Pd (v:List UInt8) (r:List SA):xk (s v :: r)=xk r:=rfl
theorem PC (r:List SA):xk (n :: r)=xk r:=rfl
theorem Ou (a:A) (r:List SA):xk (.k a :: r)=xk r:=rfl
def wd (fb:List Nat) (s:Nat→A) (ns:List Nat):Bool:=ns.any fun n=>(zK (s n)).any fun i=>fb.any (· == i)
theorem WC {fb:List Nat} {st:St} {ns:List Nat}:mh fb st ns=wd fb st.slot ns:=by
 cases fb with
 | nil=>simp [mh,wd]
 | cons f fb=>rfl
theorem UL (fb:List Nat) (s:Nat→A):wd fb s []=false:=rfl
theorem Pg (s:Nat→A) (ns:List Nat):wd [] s ns=false:=by simp [wd]
theorem XD (fb:List Nat) (s:Nat→A) (m:Nat) (ns:List Nat):wd fb s (m :: ns)=((zK (s m)).any (fun i=>fb.any (· == i))||wd fb s ns):=rfl
theorem Xn {fb:List Nat} {us:List (Nat×Ob)}:ii fb us=us.any fun p=>fb.any (· == p.1):=by
 cases fb with
 | nil=>simp [ii]
 | cons f fb=>rfl
theorem T2 (i v:Nat):zK (.row i v)=[i]:=by simp only [zK]
theorem U9 (i v o:Nat):zK (.adr i v o)=[i]:=by simp only [zK]
theorem Sk (i v o:Nat):zK (.rad i v o)=[i]:=by simp only [zK]
theorem Sr (cs:List A):zK (.agg cs)=yx cs:=by simp only [zK]
theorem Tc (cs:List A):zK (.tup cs)=yx cs:=by simp only [zK]
theorem Nl (x:D):zK (.d x)=[]:=by simp only [zK]
theorem SK:zK .nil=[]:=by simp only [zK]
theorem Wd:zK .undef=[]:=by simp only [zK]
theorem P0 (cs:List D):zK (.cp cs)=[]:=by simp only [zK]
theorem V9:yx []=[]:=by simp only [yx]
theorem XH (a:A) (r:List A):yx (a :: r)=zK a++yx r:=by simp only [yx]
def rA (wt:List Nat) (s:Nat→A) (T:List Nat):Bool:=wt.any fun n=>(we (s n)).any fun id=>T.any (· == id)
theorem aC {wt:List Nat} {st:St} {T:List Nat}:n9 wt st T=rA wt st.slot T:=by
 cases wt with
 | nil=>simp [n9,rA]
 | cons f fb=>rfl
theorem ZV (s:Nat→A) (T:List Nat):rA [] s T=false:=rfl
theorem UG (wt:List Nat) (s:Nat→A):rA wt s []=false:=by simp [rA]
theorem Zv (n:Nat) (wt:List Nat) (s:Nat→A) (T:List Nat):rA (n :: wt) s T=((we (s n)).any (fun id=>T.any (· == id))||rA wt s T):=rfl
def gW (fb:List Nat) (fl:Bool) (wt:List Nat) (s:Nat→A) (op:SOp) (ob:Nat→Ob) (us:List (Nat×Ob)):Bool:=
 (op.quiet&&!us.isEmpty)||(us.any fun p=>fb.any (· == p.1))||(fl&&ne1 us)||(!fl&&rA wt s (ux op ob us))
theorem NI (fb:List Nat) (fl:Bool) (wt:List Nat) (s:Nat→A) (op:SOp) (ob:Nat→Ob) (us:List (Nat×Ob)):gW fb fl wt s op ob us=
 ((op.quiet&&!us.isEmpty)||(us.any fun p=>fb.any (· == p.1))||(fl&&ne1 us)||(!fl&&rA wt s (ux op ob us))):=rfl
def j2 (c:Bool) (fb:List Nat) (us:List (Nat×Ob)):Bool:=!fb.isEmpty&&(!c||(us.any fun p=>fb.any (· == p.1)))
theorem O3 (c:Bool) (fb:List Nat) (us:List (Nat×Ob)):j2 c fb us=(!fb.isEmpty&&(!c||(us.any fun p=>fb.any (· == p.1)))):=rfl
theorem Xl {α:Type} (c:Bool) (fb:List Nat) (us:List (Nat×Ob)) (x:Option α):(if (fb.isEmpty||(c&&!(us.any fun p=>fb.any (· == p.1))))=true then x else none)=ifN (j2 c fb us) x:=by
 cases fb with
 | nil=>rfl
 | cons a fb=>
   unfold j2
   cases c <;> cases (us.any fun p=>(a :: fb).any (· == p.1)) <;> rfl
def wu (E:En) (live:List Nat) (fb:List Nat) (fl:Bool) (wt:List Nat) (d:Option Nat) (op:SOp) (x:Option Out) (l:List SOper) (k:List KJ) (st:St):Option XOut:=x.bind fun
 | .val a us=>ifN (gW fb fl wt st.slot op st.ob us) (gT E live l k (({ st with ob:=zh st.ob us }:St).put d a))
 | .pan x us=>ifN (j2 E.ps.isEmpty fb us) (kR E live k (.panic x,{ st with ob:=zh st.ob us }))
@[congr] theorem IL {v fb:List Nat} {fl:Bool} {wt:List Nat} {d:Option Nat} {op:SOp} {x x':Option Out} {l:List SOper} (h:x=x'):
   wu E v fb fl wt d op x l k st=wu E v fb fl wt d op x' l k st:=by rw [h]
theorem M1 {Γ:Ctx} {c:Bool} {fb:List Nat} {fl:Bool} {wt:List Nat} {d:Option Nat} {op:SOp} {as:List SA}:mO Γ c ⟨d,op,as,none,fb,fl,wt⟩ st=ifN (wd fb st.slot (xk as)) ((eval Γ st.ob (d.getD 0) op (as.map st.get)).bind fun
  | .val a us=>ifN (gW fb fl wt st.slot op st.ob us) (some (.normal,({ st with ob:=zh st.ob us }:St).put d a))
  | .pan z us=>ifN (j2 c fb us) (some (.panic z,{ st with ob:=zh st.ob us }))):=by
 have hrd:(⟨d,op,as,none,fb,fl,wt⟩:SOper).reads=xk as:=by
  show (as.filterMap fun | .t n=>some n | .k _=>none)++[]=_
  rw [List.append_nil,aR]
 unfold mO
 rw [hrd]
 simp only [WC,Ws,SS,Xn,aC]
 congr 2
 funext z
 cases z with
 | val a us=>rfl
 | pan x us=>exact Xl ..
theorem OJ (live:List Nat) (fb:List Nat) (fl:Bool) (wt:List Nat) (d:Option Nat) (op:SOp) (as:List SA) (l:List SOper):
  gT E live (⟨d,op,as,none,fb,fl,wt⟩ :: l) k st=ifN (wd fb st.slot (xk as)) (wu E live fb fl wt d op (eval E.Γ st.ob (d.getD 0) op (as.map st.get)) l k st):=by
 unfold gT wu
 simp only [uS,M1]
 cases wd fb st.slot (xk as) with
 | true=>rfl
 | false=>
   simp only [mf]
   cases eval E.Γ st.ob (d.getD 0) op (as.map st.get) with
   | none=>rfl
   | some p=>
     cases p with
     | val a us=>
       simp only [Option.bind_some]
       cases gW fb fl wt st.slot op st.ob us with
       | true=>rfl
       | false=>simp only [mf,Option.bind_some]; rfl
     | pan z us=>
       simp only [Option.bind_some]
       cases j2 E.ps.isEmpty fb us with
       | true=>rfl
       | false=>simp only [mf,Option.bind_some]
theorem KK (live:List Nat) (fb:List Nat) (fl:Bool) (wt:List Nat) (d:Nat) (op:SOp) (as:List SA) (l:List SOper):
  gT E live (ap fb fl wt (o d op as) :: l) k st=ifN (wd fb st.slot (xk as)) (wu E live fb fl wt (some d) op (eval E.Γ st.ob d op (as.map st.get)) l k st):=OJ ..
theorem LM (live:List Nat) (fb:List Nat) (fl:Bool) (wt:List Nat) (op:SOp) (as:List SA) (l:List SOper):
  gT E live (ap fb fl wt (e op as) :: l) k st=ifN (wd fb st.slot (xk as)) (wu E live fb fl wt none op (eval E.Γ st.ob 0 op (as.map st.get)) l k st):=OJ ..
theorem Sz (live:List Nat) (fb:List Nat) (fl:Bool) (wt:List Nat) (d:Nat) (op:SOp) (a:A) (us:List (Nat×Ob)) (l:List SOper):
  wu E live fb fl wt (some d) op (some (.val a us)) l k st=ifN (gW fb fl wt st.slot op st.ob us) (gT E live l k { slot:=upd st.slot d a,ob:=zh st.ob us }):=rfl
theorem Ul (live:List Nat) (fb:List Nat) (fl:Bool) (wt:List Nat) (op:SOp) (a:A) (us:List (Nat×Ob)) (l:List SOper):
  wu E live fb fl wt none op (some (.val a us)) l k st=ifN (gW fb fl wt st.slot op st.ob us) (gT E live l k { slot:=st.slot,ob:=zh st.ob us }):=rfl
theorem TP (live:List Nat) (fb:List Nat) (fl:Bool) (wt:List Nat) (d:Option Nat) (op:SOp) (x:D) (us:List (Nat×Ob)) (l:List SOper):
  wu E live fb fl wt d op (some (.pan x us)) l k st=ifN (j2 E.ps.isEmpty fb us) (kR E live k (.panic x,{ slot:=st.slot,ob:=zh st.ob us })):=rfl
theorem VQ {α:Type} (live:List Nat) (fb:List Nat) (fl:Bool) (wt:List Nat) (d:Option Nat) (op:SOp) (x:Option α) (f:α→Option Out) (l:List SOper):
  wu E live fb fl wt d op (x.bind f) l k st=x.bind fun y=>wu E live fb fl wt d op (f y) l k st:=by
 unfold wu; rw [Option.bind_assoc]
theorem Sf (live:List Nat) (fb:List Nat) (fl:Bool) (wt:List Nat) (d:Option Nat) (op:SOp) (p:Prop) [Decidable p] (x y:Option Out) (l:List SOper):
  wu E live fb fl wt d op (if p then x else y) l k st=if p then wu E live fb fl wt d op x l k st else wu E live fb fl wt d op y l k st:=by
 split <;> rfl
theorem PV (live:List Nat) (fb:List Nat) (fl:Bool) (wt:List Nat) (d:Option Nat) (op:SOp) (l:List SOper):wu E live fb fl wt d op none l k st=none:=rfl
theorem Mt (f:FuncId):SOp.quiet (.call f)=false:=rfl
theorem J4:SOp.quiet .dyn=false:=rfl
theorem JL:SOp.quiet .box=false:=rfl
theorem PF (z:List A):SOp.quiet (.alloc z)=false:=rfl
theorem Jw (e s l:Nat):SOp.quiet (lit e s l)=false:=rfl
theorem Ii (e s b:Nat) (z:List D):SOp.quiet (.mkS e s b z)=false:=rfl
theorem Jn (e s b:Nat):SOp.quiet (.app e s b)=false:=rfl
theorem Hn (n:Nat):SOp.quiet (.st n)=false:=rfl
theorem N5 {α:Type}:([]:List α).isEmpty=true:=rfl
theorem PJ {α:Type} (a:α) (l:List α):(a :: l).isEmpty=false:=rfl
theorem JJ (s:Nat→A) (ob:Nat→Ob) (live:List Nat) (fb:List Nat) (fl:Bool) (wt:List Nat) (c:Nat) (w:Bool) (d:Nat) (op:SOp) (as:List SA) (l:List SOper):
  gT E live (ap fb fl wt (g c w d op as) :: l) k ⟨s,ob⟩=ifN (wd fb s (xk as)||wd fb s [c]) (gGd (s c) w (wu E live fb fl wt (some d) op (eval E.Γ ob d op (as.map (St.get ⟨upd s c (.d (.bool w)),ob⟩))) l k ⟨upd s c (.d (.bool w)),ob⟩)
   (gT E live l k ⟨upd (upd s c (.d (.bool !w))) d (.tup []),ob⟩) (gT E live l k ⟨upd s d (.tup []),ob⟩)):=by
 have hrd:mh (ap fb fl wt (g c w d op as)).fb ⟨s,ob⟩ (ap fb fl wt (g c w d op as)).reads=(wd fb s (xk as)||wd fb s [c]):=by
  rw [WC]
  show wd fb s ((as.filterMap fun | .t n=>some n | .k _=>none)++[c])=_
  rw [aR]
  unfold wd
  rw [List.any_append]
 have hex:mO E.Γ E.ps.isEmpty (ap fb fl wt (g c w d op as)) ⟨s,ob⟩=ifN (wd fb s (xk as)||wd fb s [c]) (match xQ (s c) w with
   | some true=>(eval E.Γ ob d op (as.map (St.get ⟨s,ob⟩))).bind fun
     | .val a us=>ifN (gW fb fl wt s op ob us) (some (.normal,({ slot:=s,ob:=zh ob us }:St).put (some d) a))
     | .pan z us=>ifN (j2 E.ps.isEmpty fb us) (some (.panic z,{ slot:=s,ob:=zh ob us }))
   | some false=>some (.normal,⟨upd s d (.tup []),ob⟩)
   | none=>none):=by
  rw [← hrd]
  unfold mO
  cases mh (ap fb fl wt (g c w d op as)).fb ⟨s,ob⟩ (ap fb fl wt (g c w d op as)).reads with
  | true=>rfl
  | false=>
    simp only [Bool.false_eq_true,if_false,mf]
    show (match xQ (s c) w with
     | some true=>_
     | some false=>_
     | none=>_)=_
    cases xQ (s c) w with
    | none=>rfl
    | some b=>
      cases b with
      | false=>rfl
      | true=>
        simp only [Ws,SS,Xn,aC]
        show (eval E.Γ ob d op (as.map (St.get ⟨s,ob⟩))).bind _=_
        congr 1
        funext z
        cases z with
        | val a us=>rfl
        | pan x us=>exact Xl ..
 cases hc:(wd fb s (xk as)||wd fb s [c]) with
 | true=>
   rw [hc] at hex
   unfold gT
   simp only [uS,hex,W9]
   rfl
 | false=>
   rw [hc,mf] at hex
   rw [mf]
   refine Yv (fun s'=>wu E live fb fl wt (some d) op (eval E.Γ ob d op (as.map (St.get ⟨s',ob⟩))) l k ⟨s',ob⟩) (fun s=>gT E live l k ⟨upd s d (.tup []),ob⟩) ?_ ?_ ?_ ?_
   ·intro h
    unfold gT wu
    simp only [uS,hex,h,xQ,beq_self_eq_true]
    cases eval E.Γ ob d op (as.map (St.get ⟨s,ob⟩)) with
    | none=>rfl
    | some p=>
      cases p with
      | val a us=>
        simp only [Option.bind_some]
        cases gW fb fl wt s op ob us with
        | true=>rfl
        | false=>simp only [mf,Option.bind_some]; rfl
      | pan z us=>
        simp only [Option.bind_some]
        cases j2 E.ps.isEmpty fb us with
        | true=>rfl
        | false=>simp only [mf,Option.bind_some]
   ·rintro ⟨b,h,hne⟩
    have:(b == w)=false:=by simpa using hne
    unfold gT
    simp only [uS,hex,h,xQ,this,Option.bind_some]
   ·intro h
    unfold gT
    simp only [uS,hex,h,xQ,Option.bind_some]
   ·intro h
    unfold gT
    simp only [uS,hex,h]
    rfl
theorem GV (s:Nat→A) (ob:Nat→Ob) (live:List Nat) (c:Nat) (w:Bool) (d:Nat) (op:SOp) (as:List SA) (l:List SOper):
  gT E live (g c w d op as :: l) k ⟨s,ob⟩=gGd (s c) w (yO E live (some d) op (eval E.Γ ob d op (as.map (St.get ⟨upd s c (.d (.bool w)),ob⟩))) l k ⟨upd s c (.d (.bool w)),ob⟩)
   (gT E live l k ⟨upd (upd s c (.d (.bool !w))) d (.tup []),ob⟩) (gT E live l k ⟨upd s d (.tup []),ob⟩):=by
 have hex:mO E.Γ E.ps.isEmpty (g c w d op as) ⟨s,ob⟩=match xQ (s c) w with
   | some true=>mO E.Γ E.ps.isEmpty (o d op as) ⟨s,ob⟩
   | some false=>some (.normal,⟨upd s d (.tup []),ob⟩)
   | none=>none:=rfl
 refine Yv (fun s=>yO E live (some d) op (eval E.Γ ob d op (as.map (St.get ⟨s,ob⟩))) l k ⟨s,ob⟩) (fun s=>gT E live l k ⟨upd s d (.tup []),ob⟩) ?_ ?_ ?_ ?_
 ·intro h
  refine Eq.trans ?_ (Ir (E:=E) (k:=k) (st:=⟨s,ob⟩) live d op as l)
  unfold gT
  simp only [uS,hex,h,xQ,beq_self_eq_true]
 ·rintro ⟨b,h,hne⟩
  have:(b == w)=false:=by simpa using hne
  unfold gT
  simp only [uS,hex,h,xQ,this,Option.bind_some]
 ·intro h
  unfold gT
  simp only [uS,hex,h,xQ,Option.bind_some]
 ·intro h
  unfold gT
  simp only [uS,hex,h]
  rfl
theorem Vf (live:List Nat) (d:Nat) (op:SOp) (a:A) (l:List SOper):
  yO E live (some d) op (some (.val a [])) l k st=gT E live l k { slot:=upd st.slot d a,ob:=st.ob }:=by
 unfold yO
 simp [zh,St.put]
theorem wG (live:List Nat) (d:Nat) (op:SOp) (hq:op.quiet=false) (a:A) (u:Nat×Ob) (us:List (Nat×Ob)) (l:List SOper):
  yO E live (some d) op (some (.val a (u :: us))) l k st=gT E live l k { slot:=upd st.slot d a,ob:=zh st.ob (u :: us) }:=by
 unfold yO
 simp [hq,St.put]
theorem cV (live:List Nat) (op:SOp) (hq:op.quiet=false) (a:A) (us:List (Nat×Ob)) (l:List SOper):
  yO E live none op (some (.val a us)) l k st=gT E live l k { slot:=st.slot,ob:=zh st.ob us }:=by
 unfold yO
 simp [hq,St.put]
theorem UY (live:List Nat) (d:Option Nat) (op:SOp) (x:D) (us:List (Nat×Ob)) (l:List SOper):
  yO E live d op (some (.pan x us)) l k st=kR E live k (.panic x,{ slot:=st.slot,ob:=zh st.ob us }):=rfl
theorem V0 {α:Type} (live:List Nat) (d:Option Nat) (op:SOp) (x:Option α) (f:α→Option Out) (l:List SOper):
  yO E live d op (x.bind f) l k st=x.bind fun y=>yO E live d op (f y) l k st:=by
 unfold yO; rw [Option.bind_assoc]
theorem Th (live:List Nat) (d:Option Nat) (op:SOp) (p:Prop) [Decidable p] (x y:Option Out) (l:List SOper):
  yO E live d op (if p then x else y) l k st=if p then yO E live d op x l k st else yO E live d op y l k st:=by
 split <;> rfl
theorem Q6 (live:List Nat) (d:Option Nat) (op:SOp) (l:List SOper):yO E live d op none l k st=none:=rfl
def lz (E:En) (dd:Option (List Nat×List Nat)) (e:Ex) (st:St):Option XOut:=(J7 E dd (e,st)).bind E.wk
@[congr] theorem HG {E:En} {dd dd':Option (List Nat×List Nat)} {e:Ex} {st:St} (h:dd=dd'):lz E dd e st=lz E dd' e st:=by rw [h]
theorem PQ (e:Ex):yk E [] (e,st)=lz E E.dd e st:=rfl
theorem T5 (e:Ex):lz E none e st=if rh st.ob E.ck=true then fin E (nw E.pl E.rs (e,st)) else none:=by
 show (if rh st.ob E.ck=true then nw E.pl E.rs (e,st) else none:Option XOut).bind E.wk=_
 split <;> rfl
theorem QW (x:List Nat×List Nat):lz E (some x) .ret st=lz E none .ret st:=rfl
theorem Wb (x:List Nat×List Nat):lz E (some x) .normal st=lz E none .normal st:=rfl
def PA (da ids:List Nat) (ob:Nat→Ob):Out→Option St
 | .val _ us=>some { slot:=zo (tT da ids),ob:=zh ob us }
 | .pan .. =>none
theorem Ok (da ids:List Nat) (ob:Nat→Ob) (a:A) (us:List (Nat×Ob)):PA da ids ob (.val a us)=some ⟨zo (tT da ids),zh ob us⟩:=rfl
def WX (E:En) (ids da:List Nat) (x:D) (ob:Nat→Ob):Option St:=(vO false ob (ids.map fun id=> .adr id 1 0)).bind fun p=>
 if (yh p.2.2&&!(p.2.2.any fun m=>p.2.1.any (· == m)))=true then (E.fd x p.1).bind fun outs=>(lG E.Γ ob 0 p.2.1 p.2.2 (.ret (.tup []) outs)).bind (PA da ids ob) else none
theorem Ol (ps ids da:List Nat) (x:D):cw E.Γ E.fd ps ids da x st=WX E ids da x (st.forget ps).ob:=by
 unfold cw WX
 cases vO false (st.forget ps).ob (ids.map fun id=> .adr id 1 0) with
 | none=>rfl
 | some p=>
   obtain ⟨xs,ls,ms⟩:=p
   simp only [Option.bind_some]
   split
   ·cases E.fd x xs with
    | none=>rfl
    | some outs=>
      simp only [Option.bind_some]
      cases lG E.Γ (st.forget ps).ob 0 ls ms (.ret (.tup []) outs) with
      | none=>rfl
      | some o=>cases o <;> rfl
   ·rfl
def gD (ps:List Nat) (ob:Nat→Ob):List (Nat×Ob):=ps.map fun id=>(id,⟨(ob id).ver,rM ob (ob id).o,false⟩)
theorem SE (ps:List Nat) (s:Nat→A) (ob:Nat→Ob):(St.forget ⟨s,ob⟩ ps)=⟨fun _=> .undef,zw (gD ps ob)⟩:=by
 unfold St.forget gD
 congr 1
 funext id
 show (if ps.any (· == id)=true then (⟨(ob id).ver,rM ob (ob id).o,false⟩:Ob) else {})=_
 induction ps with
 | nil=>rfl
 | cons p ps ih=>
   simp only [List.map_cons,zw,List.any_cons]
   by_cases h:id=p
   ·subst h; simp
   ·have:(p == id)=false:=by simpa using fun e=>h e.symm
    simp only [this,Bool.false_or,if_neg h]
    exact ih
def Yx (E:En) (ids da:List Nat) (x:D) (st:St):Option XOut:=(WX E ids da x st.ob).bind fun st'=>lz E none .ret st'
theorem On (ids da:List Nat) (x:D):lz E (some (ids,da)) (.panic x) st=Yx E ids da x (st.forget (E.pl++ids)):=by
 show ((cw E.Γ E.fd (E.pl++ids) ids da x st).bind fun st'=>oq E.pl E.ck E.rs (.ret,st')).bind E.wk=_
 rw [Ol,Option.bind_assoc]; rfl
theorem O4 (ids da:List Nat) (x:D) (s:Nat→A) (ob:Nat→Ob):Yx E ids da x ⟨s,ob⟩=(vO false ob (ids.map fun id=> .adr id 1 0)).bind fun p=>
 if (yh p.2.2&&!(p.2.2.any fun m=>p.2.1.any (· == m)))=true then (E.fd x p.1).bind fun outs=>(lG E.Γ ob 0 p.2.1 p.2.2 (.ret (.tup []) outs)).bind fun o=>(PA da ids ob o).bind fun st'=>lz E none .ret st' else none:=by
 unfold Yx WX
 rw [Option.bind_assoc]
 congr 1
 funext p
 split
 ·rw [Option.bind_assoc]
  congr 1
  funext outs
  rw [Option.bind_assoc]
 ·rfl
theorem UP (Γ:Ctx) (ob:Nat→Ob) (d:Nat) (ls ms:List Nat) (x:X) (outs:List (List D)):lG Γ ob d ls ms (.ret x outs)=
  (xe ob ms outs).bind fun bs=>some (.val (yY (zh ob bs) ms x (ofX (zh ob bs) d x 0).1) ((if (yT Γ.fl x&&outs.all qK)=true then [] else zt ob ls)++(bs++(ofX (zh ob bs) d x 0).2.1))):=by
 simp only [lG]; cases xe ob ms outs <;> rfl
theorem Xj:tT [] []=[]:=rfl
theorem Zd (t id:Nat) (ts ids:List Nat):tT (t :: ts) (id :: ids)=(t,.adr id 1 0) :: tT ts ids:=rfl
theorem Ut (ob:Nat→Ob):pA ob []=some []:=rfl
theorem XR (ob:Nat→Ob) (id:Nat) (r:List A):pA ob (.adr id 1 0 :: r)=if (ob id).ver=1∧(ob id).o.isBox=true then (pA ob r).bind fun x=>some (id :: x) else none:=by
 simp only [pA]
 split
 ·cases pA ob r <;> rfl
 ·rfl
theorem Sn (cs:List A):O.isBox (.box cs)=true:=rfl
def gB (E:En) (b:Cd) (st:St):Option XOut:=G E b [] st
theorem HQ (b:Cd):gB E b st=G E b [] st:=rfl
def gDf (E:En) (ids da:List Nat) (b:Cd) (x:Option St):Option XOut:=x.bind fun st=>gB (E.behind ids da) b st
@[congr] theorem Gb {E:En} {ids da:List Nat} {b:Cd} {x x':Option St} (h:x=x'):gDf E ids da b x=gDf E ids da b x':=by rw [h]
theorem RA (ids da:List Nat) (b:Cd):gDf E ids da b (some st)=gB (E.behind ids da) b st:=rfl
theorem Pu (ids da:List Nat):(E.behind ids da).n=E.n:=rfl
theorem OH (ids da:List Nat) (p:Ex×St):yk (E.behind ids da) [] p=(bH E.Γ E.fd E.pl ids da E.ck E.rs p).bind E.wk:=rfl
theorem Lk (da keep:List Nat) (b:Cd) (s:Nat→A) (ob:Nat→Ob):yk E (.df da keep b :: k) (.normal,⟨s,ob⟩)=(pA ob (da.map s)).bind fun ids=>gDf E ids da b (canon (E.ps++ids) keep ⟨s,ob⟩):=by
 rfl
theorem XI (da keep:List Nat) (b:Cd):yk E (.df da keep b :: k) (.ret,st)=yk E k (.ret,st):=rfl
theorem Zr (da keep:List Nat) (b:Cd) (y:D):yk E (.df da keep b :: k) (.panic y,st)=yk E k (.panic y,st):=rfl
theorem Jq (x:Cd):yk E (.c x :: k) (.normal,st)=G E x k st:=rfl
theorem WY (x:Cd):yk E (.c x :: k) (.ret,st)=yk E k (.ret,st):=rfl
theorem XT (x:Cd) (j:Nat):yk E (.c x :: k) (.exit j,st)=yk E k (.exit j,st):=rfl
theorem ZY (x:Cd) (y:D):yk E (.c x :: k) (.panic y,st)=yk E k (.panic y,st):=rfl
theorem Ju (id:Nat):yk E (.b id :: k) (.normal,st)=yk E k (.normal,st):=rfl
theorem VH (id:Nat):yk E (.b id :: k) (.ret,st)=yk E k (.ret,st):=rfl
theorem XW (id j:Nat):yk E (.b id :: k) (.exit j,st)=if j=id then yk E k (.normal,st) else yk E k (.exit j,st):=rfl
theorem YC (id:Nat) (y:D):yk E (.b id :: k) (.panic y,st)=yk E k (.panic y,st):=rfl
theorem FO (live:List Nat) (s:Nat→A) (ob:Nat→Ob):yk E (.v live :: k) (.normal,⟨s,ob⟩)=yk E k (.normal,⟨zo (live.map fun n=>(n,s n)),ob⟩):=rfl
theorem Y9 (live:List Nat) (y:D):yk E (.v live :: k) (.panic y,st)=yk E k (.panic y,st):=rfl
theorem LB (keep:List Nat) (b:Cd) (m:Nat):yk E (.l keep b m :: k) (.normal,st)=gL E keep b m k st:=rfl
theorem UH (keep:List Nat) (b:Cd) (m:Nat):yk E (.l keep b m :: k) (.ret,st)=yk E k (.ret,st):=rfl
theorem Wa (keep:List Nat) (b:Cd) (m j:Nat):yk E (.l keep b m :: k) (.exit j,st)=yk E k (.exit j,st):=rfl
theorem ZT (keep:List Nat) (b:Cd) (m:Nat) (y:D):yk E (.l keep b m :: k) (.panic y,st)=yk E k (.panic y,st):=rfl
theorem yi {Γ:Ctx} {n:Nat} (wk:XOut→Option XOut) (m:Nat) (c:Cd) (rs:List RV) (xs:List X) (h:xs.length=m∧xs.all oL=true∧yh ((enter 0 xs).2.map (·.1))=true):
  (qT Γ n m c rs xs).bind wk=G ⟨Γ,(enter 0 xs).2.map (·.1),(enter 0 xs).2.map (·.1),wH (enter 0 xs).2,n,rs,none,fun _ _=>none,wk⟩ c [] { slot:=zo (enter 0 xs).1,ob:=zw (enter 0 xs).2 }:=by
 unfold qT G
 rw [if_pos h,Option.bind_assoc]
 congr 1
theorem Pe {Γ:Ctx} {FD:D→List X→Option (List (List D))} {n:Nat} (wk:XOut→Option XOut) (m:Nat) (a:Cd) (da keep:List Nat) (b:Cd) (rs:List RV) (xs:List X)
  (h:xs.length=m∧xs.all oL=true∧yh ((enter 0 xs).2.map (·.1))=true):
  (jn Γ FD n m a da keep b rs xs).bind wk=G ⟨Γ,(enter 0 xs).2.map (·.1),(enter 0 xs).2.map (·.1),wH (enter 0 xs).2,n,rs,none,FD,wk⟩ a [.df da keep b] { slot:=zo (enter 0 xs).1,ob:=zw (enter 0 xs).2 }:=by
 unfold jn G
 rw [if_pos h,Option.bind_assoc]
 congr 1
 funext p
 obtain ⟨e,st⟩:=p
 cases e with
 | normal=>
   simp only [yk]
   rw [Option.bind_assoc]
   congr 1
   funext ids
   rw [Option.bind_assoc]
   congr 1
   funext st'
   rw [Option.bind_assoc]
 | _=>rfl
theorem ND {Γ:Ctx} {n:Nat} (m b:Nat) (c:Cd) (x:D) (xs:List X) (h:xs.length=m∧xs.all oL=true∧yh ((enter 0 xs).2.map (·.1))=true):
  fT Γ n m b c x xs=(G ⟨Γ,(enter 0 xs).2.map (·.1),(enter 0 xs).2.map (·.1),wH (enter 0 xs).2,n,[],none,fun _ _=>none,some⟩ c [] { slot:=zo ((b,.d x) :: (enter 0 xs).1),ob:=zw (enter 0 xs).2 }).bind fun
   | .ret (.tup []) outs=>some outs
   | _=>none:=by
 unfold fT G
 rw [if_pos h,Option.bind_assoc,Option.bind_assoc]
 congr 1
 funext p
 show (oq _ _ _ p).bind _=((oq _ _ _ p).bind some).bind _
 cases oq ((enter 0 xs).2.map (·.1)) (wH (enter 0 xs).2) [] p <;> rfl
end
end Go.Vm
