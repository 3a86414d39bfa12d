import Derived.Test.YtpjfklhaogdfeaaGreatDoorVmOps
set_option linter.unusedVariables false
set_option linter.unusedSectionVars false
set_option linter.unusedSimpArgs false
namespace Go.Vm
section
variable {P:Program} {o:Oper} {act:Act} {c:C} {role:Nat→Option Nat} {st:St}
theorem zS {t:TypeId} {d:TypeDesc} (h:P.underlying t=some d) (w:World):(underlying t).run P w= .ok d w:=run_underlying h w
theorem wv {t:TypeId} {n:Nat} (h:xK P t=some n) (w:World):(sizeOf t).run P w= .ok n w:=by
 simp only [xK,Option.map_eq_some_iff] at h
 obtain ⟨i,hi,rfl⟩:=h
 simp [sizeOf,typeInfo,hi]
theorem s6 {t:TypeId} {n:Nat} (h:sC P t=some (some n)) (w:World):(isAgg t).run P w= .ok true w∧(sizeOf t).run P w= .ok n w:=by
 simp only [sC,Option.bind_eq_some_iff] at h
 obtain ⟨d,hd,h⟩:=h
 split at h
 ·simp only [Option.map_eq_some_iff,Option.some.injEq,exists_eq_right] at h
  exact ⟨by simp [isAgg,zS hd],wv h w⟩
 ·simp only [Option.map_eq_some_iff,Option.some.injEq,exists_eq_right] at h
  exact ⟨by simp [isAgg,zS hd],wv h w⟩
 ·simp at h
theorem kV {t:TypeId} (h:sC P t=some none) (w:World):(isAgg t).run P w= .ok false w:=by
 simp only [sC,Option.bind_eq_some_iff] at h
 obtain ⟨d,hd,h⟩:=h
 split at h
 ·simp at h
 ·simp at h
 ·rename_i h1 h2
  simp only [isAgg,Sem.run_bind,zS hd,Result.andThen_ok]
  cases d <;> simp_all
theorem Addr.add_mk (b o n:Nat):(⟨b,o,none⟩:Addr).add n=⟨b,o+n,none⟩:=by
 unfold Addr.add; split <;> simp_all
theorem nW {t:TypeId} (h:sC P t=some none) (w:World) (a:Addr) (v:Value) (hv:w.cell? a=some v):(loadVar t a).run P w= .ok v w:=by
 simp [loadVar,kV h,hv]
theorem nt {t:TypeId} {n:Nat} (h:sC P t=some (some n)) (w:World) (b o:Nat) (vs:List Value) (hl:vs.length=n)
  (hv:∀ j v,vs[j]? =some v→w.cell? ⟨b,o+j,none⟩=some v):(loadVar t ⟨b,o,none⟩).run P w= .ok (.agg vs.toArray) w:=by
 subst hl
 have hc:=run_loadCells_list (P:=P) w ⟨b,o,none⟩ vs (fun j v hj=>by rw [Addr.add_mk]; exact hv j v hj)
 simp [loadVar,(s6 h w).1,(s6 h w).2,hc]
theorem m5 {ob:Nat→Ob} {id ver:Nat} {cells:List A} (h:xg ob id ver=some cells):(ob id).o= .box cells∧(ob id).ver=ver:=by
 unfold xg at h
 split at h
 ·rename_i cs hcs
  split at h
  ·rename_i hv
   simp only [Option.some.injEq] at h; subst h; exact ⟨hcs,hv⟩
  ·cases h
 ·cases h
theorem xQ {ob:Nat→Ob} {id ver:Nat} {x:Nat×Nat×Nat×Option Nat×List D} (h:yW ob id ver=some x):
  (ob id).o= .row x.1 x.2.1 x.2.2.1 x.2.2.2.1 x.2.2.2.2∧(ob id).ver=ver:=by
 unfold yW at h
 split at h
 ·rename_i hcs
  split at h
  ·rename_i hv
   simp only [Option.some.injEq] at h; subst h; exact ⟨hcs,hv⟩
  ·cases h
 ·cases h
theorem wQ {id:Nat} {cells:List A} (h:ObOK c role id) (hb:(c.ob id).o= .box cells):∃ b cs et,c.hd id= .pointer (some ⟨b,0,none⟩)∧
  c.w.heap[b]? =some (.cells cs et (0,0))∧Rl c cells cs.toList∧cells.all one=true∧c.S b=0∧role b=some id:=by
 unfold ObOK at h; rw [hb] at h; exact h
theorem x9 {id e size n:Nat} {cap:Option Nat} {cells:List D} (h:ObOK c role id) (hb:(c.ob id).o= .row e size n cap cells):
  ∃ xs,c.w.ownsRow 0 e size (c.hd id) n xs∧RDl c.S c.w cells xs∧
    (∀ b,(c.hd id).ownBlock=some b→role b=some id∧c.S b=if (c.ob id).leak then n * size else 0)∧(∀ k,cap=some k→∃ a,c.hd id= .slice a n k):=by
 unfold ObOK at h; rw [hb] at h; exact h
theorem sX {id:Nat} {k:RK} {x:D} (h:ObOK c role id) (hb:(c.ob id).o= .res k x):
  ∃ vs,k.Holds c.w (c.hd id) vs∧RDl c.S c.w (oS x) vs∧∀ b ∈ k.foot c.w (c.hd id),role b=some id∧c.S b=0:=by
 unfold ObOK at h; rw [hb] at h; exact h
theorem ll {ob:Nat→Ob} {id ver:Nat} {q:RK×D} (h:uy ob id ver=some q):(ob id).o= .res q.1 q.2∧(ob id).ver=ver:=by
 unfold uy at h
 split at h
 ·rename_i k x ho
  split at h
  ·rename_i hv
   simp only [Option.some.injEq] at h; subst h; exact ⟨ho,hv⟩
  ·cases h
 ·cases h
theorem ov {w:World} {b:Nat} {cs:Array Value} {et:TypeId} {fr:Nat×Nat} (h:w.heap[b]? =some (.cells cs et fr)) (o:Nat):w.cell? ⟨b,o,none⟩=cs[o]? :=by
 simp [World.cell?,h]
variable (hs:∀ n,R c (st.slot n) (act.tmps.getD n undef)) (hobs:∀ id,ObOK c role id)
include hs hobs
theorem mO {id ver off:Nat} {cells:List A} {v:Value} (h:R c (.adr id ver off) v) (hb:xg c.ob id ver=some cells):
  ∃ b cs et,c.hd id= .pointer (some ⟨b,0,none⟩)∧v= .pointer (some ⟨b,off,none⟩)∧c.w.heap[b]? =some (.cells cs et (0,0))∧Rl c cells cs.toList∧
    cells.all one=true∧c.S b=0∧role b=some id:=by
 obtain ⟨h1,h2⟩:=m5 hb
 obtain ⟨b,cs,et,e1,e2,e3,e4,e5,e6⟩:=wQ (hobs id) h1
 obtain ⟨b',e7,e8⟩:=h.2.2 h2.symm (by rw [h1]; rfl)
 rw [e1] at e7
 obtain rfl:b=b':=by injection e7 with e7; injection e7 with e7; injection e7
 exact ⟨b,cs,et,e1,e8,e2,e3,e4,e5,e6⟩
theorem pR {id ver e sz n:Nat} {cap:Option Nat} {cells:List D} {v:Value} (h:R c (.row id ver) v) (hb:yW c.ob id ver=some (e,sz,n,cap,cells)):
  v=c.hd id∧∃ xs,c.w.ownsRow 0 e sz (c.hd id) n xs∧RDl c.S c.w cells xs∧
   (∀ b,(c.hd id).ownBlock=some b→role b=some id∧c.S b=if (c.ob id).leak then n * sz else 0)∧(∀ k,cap=some k→∃ a,c.hd id= .slice a n k):=by
 obtain ⟨h1,h2⟩:=xQ hb
 exact ⟨h.2.2 h2.symm (by rw [h1]; rfl),x9 (hobs id) h1⟩
theorem W4 {id ver:Nat} {q:RK×D} {v:Value} (h:R c (.row id ver) v) (hb:uy c.ob id ver=some q):
  v=c.hd id∧∃ vs,q.1.Holds c.w (c.hd id) vs∧RDl c.S c.w (oS q.2) vs∧∀ b ∈ q.1.foot c.w (c.hd id),role b=some id∧c.S b=0:=by
 obtain ⟨h1,h2⟩:=ll hb
 exact ⟨h.2.2 h2.symm (by rw [h1]; rfl),sX (hobs id) h1⟩
theorem kK {id ver off e sz n:Nat} {cap:Option Nat} {cells:List D} {v:Value} (h:R c (.rad id ver off) v) (hb:yW c.ob id ver=some (e,sz,n,cap,cells)):
  ∃ b k xs,c.hd id= .slice (some ⟨b,0,none⟩) n k∧v= .pointer (some ⟨b,off,none⟩)∧c.w.ownsRow 0 e sz (c.hd id) n xs∧RDl c.S c.w cells xs∧
    role b=some id∧c.S b=(if (c.ob id).leak then n * sz else 0):=by
 obtain ⟨h1,h2⟩:=xQ hb
 obtain ⟨b,n',k,e1,e2⟩:=h.2.2 h2.symm (by rw [h1]; rfl)
 obtain ⟨xs,o1,o2,o3,o4⟩:=x9 (hobs id) h1
 have hn:n'=n:=by
  rcases o1.2 with ⟨e,_⟩ | ⟨g,cap,cur,e,_⟩
  ·rw [e1] at e; simp at e
  ·rw [e1] at e; injection e
 subst hn
 obtain ⟨r1,r2⟩:=o3 b (by rw [e1]; rfl)
 exact ⟨b,k,xs,e1,e2,o1,o2,r1,r2⟩
theorem T5 {t:TypeId} {x:Operand} {sa:SA} {out:Out} (ho:o.op= .load t x) (hx:zQ x=some sa) (ha:sC P t=some none)
  (he:lg c.ob [st.get sa]=some out):Does P o act c role out:=by
 have hr:=yn hs hx
 generalize st.get sa=a at he hr
 have key:∀ (v u:Value) (y:A),act.eval x=v→(∃ p,v= .pointer (some p)∧c.w.cell? p=some u)→R c y u→out= .val y []→Does P o act c role out:=by
  intro v u y hv hp hy e
  subst e
  obtain ⟨p,rfl,hp⟩:=hp
  refine Does.pure hobs (v:=u) ?_ hy
  simp [execOp,ho,hv,Instr.loadAt,Instr.sureAddr,nW ha _ _ _ hp]
 unfold lg at he
 split at he <;> rename_i heq
 ·rename_i id ver off
  simp only [List.cons.injEq,and_true] at heq; subst heq
  simp only [Option.bind_eq_some_iff] at he
  obtain ⟨cells,hb,y,hy,he⟩:=he
  simp only [ok,Option.some.injEq] at he
  obtain ⟨b,cs,et,_,e2,e3,e4,_⟩:=mO hs hobs hr hb
  obtain ⟨u,hu,hru⟩:=e4.get off y hy
  refine key _ u y e2 ⟨_,rfl,?_⟩ hru he.symm
  rw [ov e3]; simpa using hu
 ·rename_i id ver off
  simp only [List.cons.injEq,and_true] at heq; subst heq
  simp only [Option.bind_eq_some_iff] at he
  obtain ⟨⟨ze,zs,zn,zc,cells⟩,hb,y,hy,he⟩:=he
  simp only at hy
  simp only [ok,Option.some.injEq] at he
  obtain ⟨b,k,xs,e1,e2,e3,e4,_⟩:=kK hs hobs hr hb
  obtain ⟨u,hu,hru⟩:=e4.get off y hy
  refine key _ u (.d y) e2 ⟨_,rfl,?_⟩ hru he.symm
  rw [e1] at e3
  rw [e3.cellAt off ?_]
  ·exact hu
  ·have:=e3.1; have h':=(List.getElem?_eq_some_iff.1 hu).1; omega
 ·rename_i y r
  simp only [List.cons.injEq,and_true] at heq; subst heq
  simp only [ok,Option.some.injEq] at he
  obtain ⟨b,off,e1,h1,⟨u,hu,hru⟩,_⟩:=hr
  exact key _ u (.d y) e1 ⟨_,rfl,hu⟩ hru he.symm
 ·cases he
theorem Uw {t:TypeId} {n:Nat} {x:Operand} {sa:SA} {out:Out} (ho:o.op= .load t x) (hx:zQ x=some sa) (ha:sC P t=some (some n))
  (he:rz c.ob n [st.get sa]=some out):Does P o act c role out:=by
 have hr:=yn hs hx
 generalize st.get sa=a at he hr
 have key:∀ (b off:Nat) (vs:List Value) (ys:List A),act.eval x= .pointer (some ⟨b,off,none⟩)→vs.length=n→
   (∀ j v,vs[j]? =some v→c.w.cell? ⟨b,off+j,none⟩=some v)→Rl c ys vs→out= .val (.agg ys) []→Does P o act c role out:=by
  intro b off vs ys hv hl hp hy e
  subst e
  refine Does.pure hobs (v:= .agg vs.toArray) ?_ ⟨_,rfl,by simpa using hy⟩
  simp [execOp,ho,hv,Instr.loadAt,Instr.sureAddr,nt ha _ _ _ vs hl hp]
 unfold rz at he
 split at he <;> rename_i heq
 ·rename_i id ver off
  simp only [List.cons.injEq,and_true] at heq; subst heq
  simp only [Option.bind_eq_some_iff] at he
  obtain ⟨cells,hb,he⟩:=he
  split at he
  ·rename_i hlen
   simp only [ok,Option.some.injEq] at he
   obtain ⟨b,cs,et,_,e2,e3,e4,_⟩:=mO hs hobs hr hb
   have hlc:=e4.length
   refine key b off ((cs.toList.drop off).take n) _ e2 ?_ ?_ (Rl.take n (Rl.drop off e4)) he.symm
   ·simp at hlc ⊢; omega
   ·intro j v hj
    rw [ov e3]
    rw [List.getElem?_take] at hj
    split at hj
    ·simpa [List.getElem?_drop] using hj
    ·cases hj
  ·cases he
 ·rename_i id ver off
  simp only [List.cons.injEq,and_true] at heq; subst heq
  simp only [Option.bind_eq_some_iff] at he
  obtain ⟨⟨ze,zs,zn,zc,cells⟩,hb,he⟩:=he
  simp only at he
  split at he
  ·rename_i hlen
   simp only [ok,Option.some.injEq] at he
   obtain ⟨b,k,xs,e1,e2,e3,e4,_⟩:=kK hs hobs hr hb
   have hlc:=e4.length
   refine key b off ((xs.drop off).take n) _ e2 ?_ ?_ (Rl.map_d (RDl.take n (RDl.drop off e4))) he.symm
   ·simp; omega
   ·intro j v hj
    rw [List.getElem?_take] at hj
    split at hj
    ·rw [List.getElem?_drop] at hj
     rw [e1] at e3
     have h':off+j < xs.length:=(List.getElem?_eq_some_iff.1 hj).1
     rw [e3.1] at h'
     rw [e3.cellAt (off+j) h']
     exact hj
    ·cases hj
  ·cases he
 ·rename_i cells
  simp only [List.cons.injEq,and_true] at heq; subst heq
  split at he
  ·rename_i hlen
   simp only [ok,Option.some.injEq] at he
   obtain ⟨b,off,e1,H⟩:=hr
   have:∀ (xs:List D) (o':Nat),RDat c.S c.w xs b o'→∃ vs:List Value,vs.length=xs.length∧(∀ j v,vs[j]? =some v→c.w.cell? ⟨b,o'+j,none⟩=some v)∧RDl c.S c.w xs vs:=by
    intro xs
    induction xs with
    | nil=>exact fun _ _=>⟨[],rfl,by simp,rfl⟩
    | cons x xs ih=>
      rintro o' ⟨_,⟨v,hv,hx⟩,hr⟩
      obtain ⟨vs,h1,h2,h3⟩:=ih (o'+1) hr
      refine ⟨v :: vs,by simp [h1],?_,v,vs,rfl,hx,h3⟩
      intro j u hj
      cases j with
      | zero=>simp at hj; subst hj; simpa using hv
      | succ j=>simp at hj; have:=h2 j u hj; rwa [show o'+1+j=o'+(j+1) from by omega] at this
   obtain ⟨vs,h1,h2,h3⟩:=this (cells.take n) off (H.take n)
   refine key b off vs _ e1 (by rw [h1]; simp; omega) h2 ?_ he.symm
   exact Rl.map_d h3
  ·cases he
 ·cases he
end
end Go.Vm
set_option linter.unusedVariables false
set_option linter.unusedSectionVars false
set_option linter.unusedSimpArgs false
namespace Go.Vm
theorem zr {a:A} {out:Out} (h:ok a=some out):out= .val a []:=by simp only [ok,Option.some.injEq] at h; exact h.symm
section
variable {P:Program} {o:Oper} {act:Act} {c:C} {role:Nat→Option Nat} {st:St}
variable (hs:∀ n,R c (st.slot n) (act.tmps.getD n undef)) (hobs:∀ id,ObOK c role id)
include hs hobs
theorem Zw {x:Operand} {sa:SA} {out:Out} (ho:o.op= .move x ∨ o.op= .assign x) (hx:zQ x=some sa) (he:ok (st.get sa)=some out):Does P o act c role out:=by
 rw [zr he]
 refine Does.pure hobs (v:=act.eval x) ?_ (yn hs hx)
 rcases ho with ho | ho <;> simp [execOp,ho]
theorem uq {x y:Operand} {l:List SA} (h:zD [x,y]=some l):∃ a b,l=[a,b]∧R c (st.get a) (act.eval x)∧R c (st.get b) (act.eval y):=by
 simp only [zD,Option.bind_eq_some_iff,Option.map_eq_some_iff] at h
 obtain ⟨a,ha,l',⟨b,hb,l'',h'',rfl⟩,rfl⟩:=h
 cases h''
 exact ⟨a,b,rfl,yn hs ha,yn hs hb⟩
theorem Rp {x y z:Operand} {l:List SA} (h:zD [x,y,z]=some l):
  ∃ a b d,l=[a,b,d]∧R c (st.get a) (act.eval x)∧R c (st.get b) (act.eval y)∧R c (st.get d) (act.eval z):=by
 simp only [zD,Option.bind_eq_some_iff,Option.map_eq_some_iff] at h
 obtain ⟨a,ha,l',⟨b,hb,l'',⟨d,hd,l3,h3,rfl⟩,rfl⟩,rfl⟩:=h
 cases h3
 exact ⟨a,b,d,rfl,yn hs ha,yn hs hb,yn hs hd⟩
theorem Vr {x y z:Operand} {l:List SA} {out:Out} {Γ:Ctx} {d:Nat} (ho:o.op= .pick x y z) (hl:zD [x,y,z]=some l)
  (he:eval Γ c.ob d .pick (l.map st.get)=some out):Does P o act c role out:=by
 obtain ⟨a,b,e,rfl,h1,h2,h3⟩:=Rp hs hobs hl
 simp only [eval,List.map_cons,List.map_nil] at he
 split at he
 ·rename_i t p q heq
  simp only [List.cons.injEq,and_true] at heq
  obtain ⟨e1,e2,e3⟩:=heq
  rw [e1] at h1; rw [e2] at h2; rw [e3] at h3
  rw [zr he]
  simp only [R,RD] at h1
  refine Does.pure hobs (v:=if t then act.eval y else act.eval z) ?_ ?_
  ·simp [execOp,ho,h1,asBool]
  ·cases t <;> simpa
 ·cases he
omit hs hobs in
theorem Nt {q:RK×D} {a:A} {out:Out} (h:(match q.1 with | .bld _ _=>ok a | _=>none)=some out):∃ T e,q.1= .bld T e∧out= .val a []:=by
 cases hq:q.1 with
 | map t n=>rw [hq] at h; cases h
 | ext i x y=>rw [hq] at h; cases h
 | bld T e=>rw [hq] at h; exact ⟨T,e,rfl,zr h⟩
theorem Z8 {x:Operand} {sa:SA} {out:Out} {Γ:Ctx} {d:Nat} (ho:o.op= .nilCheck x) (hx:zQ x=some sa) (he:eval Γ c.ob d .nilck [st.get sa]=some out):
  Does P o act c role out:=by
 have hr:=yn hs hx
 generalize st.get sa=a at he hr
 simp only [eval] at he
 split at he
 ·rename_i i v off heq
  simp only [List.cons.injEq,and_true] at heq; subst heq
  simp only [Option.bind_eq_some_iff] at he
  obtain ⟨cells,hb,he⟩:=he
  rw [zr he]
  obtain ⟨b,cs,et,e1,e2,_⟩:=mO hs hobs hr hb
  refine Does.pure hobs (v:=act.eval x) ?_ hr
  simp [execOp,ho,e2]
 ·rename_i i v heq
  simp only [List.cons.injEq,and_true] at heq; subst heq
  obtain ⟨q,hb,he⟩:=Option.bind_eq_some_iff.1 he
  obtain ⟨T,e',hq,rfl⟩:=Nt he
  obtain ⟨e1,vs,e2,_⟩:=W4 hs hobs hr hb
  rw [hq] at e2
  obtain ⟨b,s,e3,_⟩:=e2
  refine Does.pure hobs (v:=act.eval x) ?_ hr
  simp [execOp,ho,e1,e3]
 ·cases he
theorem Ym {op:BinOp} {k:IntKind} {a b:Int} {y:D} (h:wR op k a b=some y) (t:TypeId) (w:World):∃ v,(binOp op t (.int k a) (.int k b)).run P w= .ok v w∧RD c.S c.w y v:=by
 cases op <;> simp only [wR,intCmp,Option.map_none,Option.map_some,Option.some.injEq,reduceCtorEq] at h <;> (try subst h) <;> try (exact ⟨_,by simp [binOp,Op.intArith,Op.intCmp],rfl⟩)
 all_goals
  split at h
  ·cases h
  ·rename_i hb
   simp only [Option.some.injEq] at h; subst h
   exact ⟨_,by simp [binOp,Op.intDiv,hb],rfl⟩
theorem Xg {op:BinOp} {a b:ByteArray} {y:D} (h:qA op a b=some y) (t:TypeId) (w:World):∃ v,(binOp op t (.string a) (.string b)).run P w= .ok v w∧RD c.S c.w y v:=by
 cases op <;> simp only [qA,Option.some.injEq,reduceCtorEq] at h <;> (try subst h) <;> try (exact ⟨_,by simp [binOp,Op.stringOp],rfl⟩)
 split at h
 ·rename_i hb
  simp only [Option.some.injEq] at h; subst h
  refine ⟨.string (a++b),?_,rfl⟩
  have:¬ (((a.size+b.size:Nat):Int) > IntKind.i64.max):=by
   have:IntKind.i64.max=9223372036854775807:=by decide
   omega
  simp only [binOp,Op.stringOp,this,if_false]
  rfl
 ·cases h
theorem bI {op:BinOp} {t yt:TypeId} {x y:Operand} {l:List SA} {out:Out} (ho:o.op= .binOp op t x y yt) (hl:zD [x,y]=some l)
  (he:xV op (l.map st.get)=some out):Does P o act c role out:=by
 obtain ⟨a,b,rfl,h1,h2⟩:=uq hs hobs hl
 simp only [List.map_cons,List.map_nil] at he
 unfold xV at he
 split at he <;> rename_i heq
 ·simp only [List.cons.injEq,and_true] at heq
  obtain ⟨e1,e2⟩:=heq
  rw [e1] at h1; rw [e2] at h2
  simp only [R,RD] at h1 h2
  split at he
  ·rename_i hk; subst hk
   simp only [Option.bind_eq_some_iff] at he
   obtain ⟨z,hz,he⟩:=he
   rw [zr he]
   obtain ⟨v,hv,hr⟩:=Ym (P:=P) hs hobs hz t c.w
   refine Does.pure hobs (v:=v) ?_ hr
   have hg:(eqGuard op t x y (act.eval x) (act.eval y)).run P c.w= .ok () c.w:=by
    rw [h1,h2]; cases op <;> simp [eqGuard]
   rw [h1,h2] at hg
   simp only [execOp,ho,Sem.run_bind,h1,h2,hg,Result.andThen_ok,hv,Sem.run_pure]
  ·cases he
 ·simp only [List.cons.injEq,and_true] at heq
  obtain ⟨e1,e2⟩:=heq
  rw [e1] at h1; rw [e2] at h2
  simp only [R,RD] at h1 h2
  simp only [Option.bind_eq_some_iff] at he
  obtain ⟨z,hz,he⟩:=he
  rw [zr he]
  obtain ⟨v,hv,hr⟩:=Xg (P:=P) hs hobs hz t c.w
  refine Does.pure hobs (v:=v) ?_ hr
  have hg:(eqGuard op t x y (act.eval x) (act.eval y)).run P c.w= .ok () c.w:=by
   rw [h1,h2]; cases op <;> simp [eqGuard]
  rw [h1,h2] at hg
  simp only [execOp,ho,Sem.run_bind,h1,h2,hg,Result.andThen_ok,hv,Sem.run_pure]
 ·cases he
end
end Go.Vm
set_option linter.unusedVariables false
set_option linter.unusedSectionVars false
set_option linter.unusedSimpArgs false
namespace Go.Vm
theorem cN {P:Program} {t:TypeId} (ht:P.underlying t=some .bool) (p q:Bool) (w:World) (d:Nat):(Op.equalIn (d+1) t (.bool p) (.bool q)).run P w= .ok (p == q) w:=by
 simp [Op.equalIn,zS ht]
section
variable {P:Program} {o:Oper} {act:Act} {c:C} {role:Nat→Option Nat} {st:St}
variable (hs:∀ n,R c (st.slot n) (act.tmps.getD n undef)) (hobs:∀ id,ObOK c role id)
include hs hobs
theorem Uj {op:BinOp} {neg:Bool} {t yt:TypeId} {x y:Operand} {l:List SA} {out:Out} {Γ:Ctx} {d:Nat} (ho:o.op= .binOp op t x y yt) (ht:P.underlying t=some .bool)
  (hop:(op= .eql∧neg=false) ∨ (op= .neq∧neg=true)) (hl:zD [x,y]=some l) (he:eval Γ c.ob d (.beq neg) (l.map st.get)=some out):Does P o act c role out:=by
 obtain ⟨a,b,rfl,h1,h2⟩:=uq hs hobs hl
 simp only [eval,List.map_cons,List.map_nil] at he
 split at he
 ·rename_i p q heq
  simp only [List.cons.injEq,and_true] at heq
  obtain ⟨e1,e2⟩:=heq
  rw [e1] at h1; rw [e2] at h2
  simp only [R,RD] at h1 h2
  rw [zr he]
  have hq:(Op.equal t (.bool p) (.bool q)).run P c.w= .ok (p == q) c.w:=cN ht p q c.w 9999
  refine Does.pure hobs (v:= .bool (if neg then !(p == q) else p == q)) ?_ rfl
  rcases hop with ⟨rfl,rfl⟩ | ⟨rfl,rfl⟩ <;> simp only [execOp,ho,Sem.run_bind,h1,h2,eqGuard,binOp,hq,Result.andThen_ok,Sem.run_pure,Bool.false_eq_true,if_false,if_true,Bool.not_true,Sem.run_ite] <;> simp
 ·cases he
theorem UD {t:TypeId} {x:Operand} {sa:SA} {out:Out} {Γ:Ctx} {d:Nat} (ho:o.op= .unOp .neg t x) (hx:zQ x=some sa) (he:eval Γ c.ob d .neg [st.get sa]=some out):
  Does P o act c role out:=by
 have hr:=yn hs hx
 generalize st.get sa=a at he hr
 simp only [eval] at he
 split at he
 ·rename_i k n heq
  simp only [List.cons.injEq,and_true] at heq; subst heq
  rw [zr he]
  simp only [R,RD] at hr
  exact Does.pure hobs (v:= .int k (k.wrap (0 - n))) (by simp [execOp,ho,hr,Op.unary,Op.intArith]) rfl
 ·cases he
theorem TR {t:TypeId} {x:Operand} {sa:SA} {out:Out} {Γ:Ctx} {d:Nat} (ho:o.op= .unOp .not t x) (hx:zQ x=some sa) (he:eval Γ c.ob d .not [st.get sa]=some out):
  Does P o act c role out:=by
 have hr:=yn hs hx
 generalize st.get sa=a at he hr
 simp only [eval] at he
 split at he
 ·rename_i b heq
  simp only [List.cons.injEq,and_true] at heq; subst heq
  rw [zr he]
  simp only [R,RD] at hr
  exact Does.pure hobs (v:= .bool !b) (by simp [execOp,ho,hr,Op.unary]) rfl
 ·cases he
theorem UU {s t:TypeId} {k k':IntKind} {x:Operand} {sa:SA} {out:Out} {Γ:Ctx} {d:Nat} (ho:o.op= .convert s t x) (hus:P.underlying s=some (.int k')) (hut:P.underlying t=some (.int k))
  (hx:zQ x=some sa) (he:eval Γ c.ob d (.cvt k) [st.get sa]=some out):Does P o act c role out:=by
 have hr:=yn hs hx
 generalize st.get sa=a at he hr
 simp only [eval] at he
 split at he
 ·rename_i k2 n heq
  simp only [List.cons.injEq,and_true] at heq; subst heq
  rw [zr he]
  simp only [R,RD] at hr
  exact Does.pure hobs (v:= .int k (k.wrap n)) (by simp [execOp,ho,hr,convert,zS hus,zS hut,Conv.intToInt]) rfl
 ·cases he
theorem Xk:∀ {cs:List A} {xs:List D} {vs:List Value},xE cs=some xs→Rl c cs vs→RDl c.S c.w xs vs
 | [],xs,vs,h,hr=>by simp only [xE,Option.some.injEq] at h; subst h; exact hr
 | a :: cs,xs,vs,h,⟨v,r,e,hv,hr⟩=>by
   cases a <;> simp only [xE,Option.map_eq_some_iff,reduceCtorEq] at h
   obtain ⟨ys,hy,rfl⟩:=h
   exact ⟨v,r,e,hv,Xk hy hr⟩
theorem SO {f:FuncId} {first caps:Array Operand} {out:Out} {Γ:Ctx} {d:Nat} (ho:o.op= .makeFunc (.func f) first caps) (h1:first.size=0) (h2:caps.size=0)
  (he:eval Γ c.ob d (.mkF f) []=some out):Does P o act c role out:=by
 simp only [eval] at he
 rw [zr he]
 have e1:first=#[]:=Array.size_eq_zero_iff.1 h1
 have e2:caps=#[]:=Array.size_eq_zero_iff.1 h2
 subst e1; subst e2
 exact Does.pure hobs (v:= .func (.func f) #[] #[]) (by simp [execOp,ho,Instr.makeFunc]) rfl
theorem RT {t:TypeId} {fs:Array Field} {f:Nat} {fd:Field} {n:Nat} {x:Operand} {sa:SA} {out:Out} (ho:o.op= .fieldAddr t x f) (ht:P.underlying t=some (.struct fs))
  (hf:fs[f]? =some fd) (hn:xK P fd.type=some n) (hn0:n ≠ 0) (hx:zQ x=some sa) (he:pT c.ob fd.offset [st.get sa]=some out):Does P o act c role out:=by
 have hr:=yn hs hx
 generalize st.get sa=a at he hr
 have hrun:∀ b off,act.eval x= .pointer (some ⟨b,off,none⟩)→(execOp act.eval o).run P c.w= .ok (.value (.pointer (some ⟨b,off+fd.offset,none⟩))) c.w:=by
  intro b off h
  simp [execOp,ho,h,Instr.fieldAt,zS ht,hf,Instr.sureAddr,fieldPlace,wv hn,hn0,Addr.add_mk]
 unfold pT at he
 split at he <;> rename_i heq
 ·rename_i id ver off
  simp only [List.cons.injEq,and_true] at heq; subst heq
  simp only [Option.bind_eq_some_iff] at he
  obtain ⟨cells,hb,he⟩:=he
  rw [zr he]
  obtain ⟨b,cs,et,e1,e2,_⟩:=mO hs hobs hr hb
  exact Does.pure hobs (hrun b off e2) ⟨rfl,hr.2.1,fun _ _=>⟨b,e1,rfl⟩⟩
 ·rename_i id ver off
  simp only [List.cons.injEq,and_true] at heq; subst heq
  simp only [Option.bind_eq_some_iff] at he
  obtain ⟨⟨ze,zs,zn,zc,cells⟩,hb,he⟩:=he
  rw [zr he]
  obtain ⟨b,k,xs,e1,e2,_⟩:=kK hs hobs hr hb
  exact Does.pure hobs (hrun b off e2) ⟨rfl,hr.2.1,fun _ _=>⟨b,_,k,e1,rfl⟩⟩
 ·rename_i cells
  simp only [List.cons.injEq,and_true] at heq; subst heq
  split at he
  ·rw [zr he]
   obtain ⟨b,off,e1,H⟩:=hr
   exact Does.pure hobs (hrun b off e1) ⟨b,off+fd.offset,rfl,H.drop _⟩
  ·cases he
 ·rename_i id ver
  simp only [List.cons.injEq,and_true] at heq; subst heq
  obtain ⟨q,hb,he⟩:=Option.bind_eq_some_iff.1 he
  cases hq:q.1 with
  | map t n=>rw [hq] at he; cases he
  | ext i x y=>rw [hq] at he; cases he
  | bld T e=>
    rw [hq] at he
    simp only at he
    split at he
    ·rename_i h0
     rw [zr he]
     obtain ⟨e1,vs,e2,_⟩:=W4 hs hobs hr hb
     rw [hq] at e2
     obtain ⟨b,s,e3,_⟩:=e2
     have hv:=hrun b 0 (e1.trans e3)
     rw [h0,Nat.add_zero] at hv
     refine Does.pure hobs hv ?_
     rw [← e3,← e1]; exact hr
    ·cases he
 ·cases he
theorem T8 {t:TypeId} {fs:Array Field} {f:Nat} {fd:Field} {n:Option Nat} {x:Operand} {sa:SA} {out:Out} {Γ:Ctx} {d:Nat} (ho:o.op= .field t x f) (ht:P.underlying t=some (.struct fs))
  (hf:fs[f]? =some fd) (hn:sC P fd.type=some n) (hx:zQ x=some sa) (he:eval Γ c.ob d (.fld fd.offset n) [st.get sa]=some out):Does P o act c role out:=by
 have hr:=yn hs hx
 generalize st.get sa=a at he hr
 cases n with
 | none=>
   simp only [eval] at he
   split at he
   ·rename_i cs heq
    simp only [List.cons.injEq,and_true] at heq; subst heq
    simp only [Option.bind_eq_some_iff] at he
    obtain ⟨y,hy,he⟩:=he
    rw [zr he]
    obtain ⟨vs,e,H⟩:=hr
    obtain ⟨u,hu,hru⟩:=H.get _ y hy
    refine Does.pure hobs (v:=u) ?_ hru
    have hu':vs[fd.offset]? =some u:=by simpa using hu
    simp [execOp,ho,e,Instr.field,zS ht,hf,part,kV hn,asAgg,hu']
   ·cases he
 | some n=>
   simp only [eval] at he
   split at he
   ·rename_i cs heq
    simp only [List.cons.injEq,and_true] at heq; subst heq
    split at he
    ·rename_i hlen
     rw [zr he]
     obtain ⟨vs,e,H⟩:=hr
     refine Does.pure hobs (v:= .agg (vs.extract fd.offset (fd.offset+n))) ?_ ⟨_,rfl,?_⟩
     ·simp [execOp,ho,e,Instr.field,zS ht,hf,part,(s6 hn c.w).1,(s6 hn c.w).2,asAgg]
     ·have:=Rl.take n (Rl.drop fd.offset H)
      rw [Array.toList_extract,List.extract_eq_take_drop,Nat.add_sub_cancel_left]
      exact this
    ·cases he
   ·cases he
theorem Se {i:Nat} {x:Operand} {sa:SA} {out:Out} {Γ:Ctx} {d:Nat} (ho:o.op= .extract x i) (hx:zQ x=some sa) (he:eval Γ c.ob d (.ext i) [st.get sa]=some out):Does P o act c role out:=by
 have hr:=yn hs hx
 generalize st.get sa=a at he hr
 simp only [eval] at he
 split at he
 ·rename_i cs heq
  simp only [List.cons.injEq,and_true] at heq; subst heq
  simp only [Option.bind_eq_some_iff] at he
  obtain ⟨y,hy,he⟩:=he
  rw [zr he]
  obtain ⟨vs,e,H⟩:=hr
  obtain ⟨u,hu,hru⟩:=H.get _ y hy
  have hu':vs[i]? =some u:=by simpa using hu
  exact Does.pure hobs (v:=u) (by simp [execOp,ho,e,Instr.extract,hu']) hru
 ·cases he
theorem SH {t:TypeId} {x y:Operand} {l:List SA} {out:Out} {Γ:Ctx} {d:Nat} (ho:o.op= .index t x y) (ht:P.underlying t=some .string) (hl:zD [x,y]=some l)
  (he:eval Γ c.ob d .ixs (l.map st.get)=some out):Does P o act c role out:=by
 obtain ⟨a,b,rfl,h1,h2⟩:=uq hs hobs hl
 simp only [eval,List.map_cons,List.map_nil] at he
 split at he
 ·rename_i s k i heq
  simp only [List.cons.injEq,and_true] at heq
  obtain ⟨e1,e2⟩:=heq
  rw [e1] at h1; rw [e2] at h2
  simp only [R,RD] at h1 h2
  split at he
  ·rename_i hi
   rw [zr he]
   refine Does.pure hobs (v:= .int .u8 (s.data.getD i.toNat 0).toNat) ?_ rfl
   have hlt:i.toNat < s.size:=by omega
   have hg:s[i.toNat]? =some (s.data.getD i.toNat 0):=by
    rw [getElem?_pos s i.toNat hlt]
    simp only [Option.some.injEq]
    show s.data[i.toNat]=_
    rw [Array.getD_eq_getD_getElem?,Array.getElem?_eq_getElem (show i.toNat < s.data.size from hlt)]
    rfl
   simp [execOp,ho,h1,h2,Instr.index,asIntOf,zS ht,hi.1,hg]
  ·cases he
 ·cases he
theorem Zd {mx:Bool} {b:Builtin} {x y:Operand} {args:Array Operand} {tys:Array TypeId} {l:List SA} {out:Out} {Γ:Ctx} {d:Nat} (ho:o.op= .call { callee:= .builtin b,args:=args,argTypes:=tys })
  (hb:(b= .max∧mx=true) ∨ (b= .min∧mx=false)) (ha:args.toList=[x,y]) (hl:zD [x,y]=some l) (he:eval Γ c.ob d (.mm mx) (l.map st.get)=some out):Does P o act c role out:=by
 obtain rfl:args=#[x,y]:=by have:=congrArg List.toArray ha; simpa using this
 obtain ⟨a,b,rfl,h1,h2⟩:=uq hs hobs hl
 simp only [eval,List.map_cons,List.map_nil] at he
 split at he
 ·rename_i k p k' q heq
  simp only [List.cons.injEq,and_true] at heq
  obtain ⟨e1,e2⟩:=heq
  rw [e1] at h1; rw [e2] at h2
  simp only [R,RD] at h1 h2
  split at he
  ·rename_i hk; subst hk
   rw [zr he]
   refine Does.pure hobs (v:= .int k (if mx then (if p < q then q else p) else (if q < p then q else p))) ?_ rfl
   rcases hb with ⟨rfl,rfl⟩ | ⟨rfl,rfl⟩ <;> simp only [execOp,ho,resolve,invoke,builtin,Sem.run_bind,Sem.run_pure,Result.andThen_ok,List.map_toArray,List.map_cons,List.map_nil,h1,h2,Bool.false_eq_true,if_false,if_true] <;>
    simp [Builtin.max_,Builtin.min_,Builtin.max2,Builtin.min2]
  ·cases he
 ·cases he
end
end Go.Vm
