/- Each operation of the model does what the abstract machine says: the operations without a call. -/
import Derived.Test.YtpjfklhaogdfeaaGreatDoorVmRel
import Derived.Test.YtpjfklhaogdfeaaGreatDoorVmComp
import Derived.WalkKit
set_option linter.unusedSimpArgs false
set_option linter.unusedVariables false
set_option linter.unusedSectionVars false
namespace Go.Vm
theorem Le.trans {c c' c'':C} (h:Le c c') (h':Le c' c''):Le c c'' where
 stab:=h.stab.trans h'.stab
 ver id:=Nat.le_trans (h.ver id) (h'.ver id)
 same id e:=by
  have a:=h.ver id; have b:=h'.ver id
  have e1:(c'.ob id).ver=(c.ob id).ver:=by omega
  have e2:(c''.ob id).ver=(c'.ob id).ver:=by omega
  have s1:=h.same id e1; have s2:=h'.same id e2
  exact ⟨s2.1.trans s1.1,s2.2.1.trans s1.2.1,s2.2.2.trans s1.2.2⟩
theorem Ext.refl {c:C} {role:Nat→Option Nat} (h:∀ id,ObOK c role id):Ext c c role role:=
 ⟨Le.refl c,rfl,rfl,rfl,Nat.le_refl _,fun _ _ _=>⟨rfl,rfl⟩,fun _ _=>rfl,h⟩
section
variable {c:C}
theorem cj {v:Value} {a:A} (h:gO v=some a):R c a v:=by
 unfold gO at h
 split at h <;> first
  | (simp only [Option.some.injEq] at h; subst h; simp [R,RD]; done)
  | (split at h
     ·simp only [Option.some.injEq] at h; subst h
      rename_i hs
      simp only [R,RD]
      rw [Array.size_eq_zero_iff.1 hs.1,Array.size_eq_zero_iff.1 hs.2]
     ·cases h)
  | (cases h; done)
variable {st:St} {act:Act} (hs:∀ n,R c (st.slot n) (act.tmps.getD n undef))
include hs
theorem yn {x:Operand} {sa:SA} (h:zQ x=some sa):R c (st.get sa) (act.eval x):=by
 cases x with
 | tmp t=>simp only [zQ,Option.some.injEq] at h; subst h; exact hs t
 | const v=>
   simp only [zQ,Option.map_eq_some_iff] at h
   obtain ⟨a,ha,rfl⟩:=h
   exact cj ha
 | global g=>simp [zQ] at h
 | func f=>simp only [zQ,Option.some.injEq] at h; subst h; simp [St.get,Act.eval,R,RD]
theorem qm:∀ {xs:List Operand} {sas:List SA},zD xs=some sas→Rl c (sas.map st.get) (xs.map act.eval)
 | [],sas,h=>by simp only [zD,Option.some.injEq] at h; subst h; simp [Rl]
 | x :: xs,sas,h=>by
   simp only [zD,Option.bind_eq_some_iff,Option.map_eq_some_iff] at h
   obtain ⟨a,ha,l,hl,rfl⟩:=h
   exact ⟨_,_,rfl,yn hs ha,qm hl⟩
end
def Does (P:Program) (o:Oper) (act:Act) (c:C) (role:Nat→Option Nat) (out:Out):Prop:=
 match out with
 | .val a us=>∃ nx v S' w' hd' role',(execOp act.eval o).run P c.w= .ok nx w'∧(nx= .value v ∨ (nx= .skip∧v=undef))∧
     Ext c ⟨S',w',hd',za c.ob us⟩ role role'∧R ⟨S',w',hd',za c.ob us⟩ a v
 | .pan x us=>∃ v,(execOp act.eval o).run P c.w= .halt (.panic v) c.w∧us=[]∧RD c.S c.w x v
section
variable {P:Program} {o:Oper} {act:Act} {c:C} {role:Nat→Option Nat} (hobs:∀ id,ObOK c role id)
include hobs
theorem Does.pure {a:A} {v:Value} (h:(execOp act.eval o).run P c.w= .ok (.value v) c.w) (hr:R c a v):Does P o act c role (.val a []):=
 ⟨_,v,c.S,c.w,c.hd,role,h,.inl rfl,Ext.refl hobs,hr⟩
end
theorem xM {c:C} {a:A} {v:Value} (h:R c a v) (h1:one a=true):v.oneCell'=true:=by
 cases a with
 | undef=>simp [one] at h1
 | d x=>
   cases x <;> simp only [R,RD] at h <;> first
    | exact h
    | (subst h; rfl)
    | (obtain ⟨a,cap,rfl,_⟩:=h; rfl)
    | (obtain ⟨u,rfl,_⟩:=h; rfl)
 | nil=>simp only [R] at h; subst h; rfl
 | row=>exact h.1
 | adr=>exact h.1
 | rad=>exact h.1
 | vw=>exact h.1
 | cp=>obtain ⟨b,o,rfl,_⟩:=h; rfl
 | agg=>simp [one] at h1
 | tup=>simp [one] at h1
theorem wY {v:Value} (h:v.oneCell'=true):v.cells=#[v]:=by
 cases v <;> simp_all [Value.cells,Value.oneCell']
theorem qp {c:C} {a:A} {v:Value} (h:R c a v) (h1:(cellsOf a).all one=true):Rl c (cellsOf a) v.cells.toList:=by
 cases a with
 | agg cs=>obtain ⟨vs,rfl,H⟩:=h; exact H
 | undef=>simp [cellsOf,one] at h1
 | tup=>simp [cellsOf,one] at h1
 | d x=>rw [wY (xM h rfl)]; exact ⟨v,[],rfl,h,rfl⟩
 | nil=>rw [wY (xM h rfl)]; exact ⟨v,[],rfl,h,rfl⟩
 | row=>rw [wY (xM h rfl)]; exact ⟨v,[],rfl,h,rfl⟩
 | adr=>rw [wY (xM h rfl)]; exact ⟨v,[],rfl,h,rfl⟩
 | rad=>rw [wY (xM h rfl)]; exact ⟨v,[],rfl,h,rfl⟩
 | vw=>rw [wY (xM h rfl)]; exact ⟨v,[],rfl,h,rfl⟩
 | cp=>rw [wY (xM h rfl)]; exact ⟨v,[],rfl,h,rfl⟩
theorem Rl.length {c:C}:∀ {as:List A} {vs:List Value},Rl c as vs→vs.length=as.length
 | [],_,h=>by simp only [Rl] at h; subst h; rfl
 | a :: as,_,⟨v,r,e,_,hr⟩=>by subst e; simp [hr.length]
theorem RDl.length {S:Nat→Nat} {w:World}:∀ {as:List D} {vs:List Value},RDl S w as vs→vs.length=as.length
 | [],_,h=>by simp only [RDl] at h; subst h; rfl
 | a :: as,_,⟨v,r,e,_,hr⟩=>by subst e; simp [hr.length]
theorem Rl.get {c:C}:∀ {as:List A} {vs:List Value},Rl c as vs→∀ (i:Nat) (a:A),as[i]? =some a→∃ v,vs[i]? =some v∧R c a v
 | [],_,_,i,a,ha=>by simp at ha
 | x :: as,_,⟨v,r,e,hx,hr⟩,i,a,ha=>by
   subst e
   cases i with
   | zero=>simp only [List.getElem?_cons_zero,Option.some.injEq] at ha; subst ha; exact ⟨v,by simp,hx⟩
   | succ i=>simpa using hr.get i a (by simpa using ha)
theorem RDl.get {S:Nat→Nat} {w:World}:∀ {as:List D} {vs:List Value},RDl S w as vs→∀ (i:Nat) (a:D),as[i]? =some a→∃ v,vs[i]? =some v∧RD S w a v
 | [],_,_,i,a,ha=>by simp at ha
 | x :: as,_,⟨v,r,e,hx,hr⟩,i,a,ha=>by
   subst e
   cases i with
   | zero=>simp only [List.getElem?_cons_zero,Option.some.injEq] at ha; subst ha; exact ⟨v,by simp,hx⟩
   | succ i=>simpa using hr.get i a (by simpa using ha)
theorem Rl.append {c:C}:∀ {as bs:List A} {vs ws:List Value},Rl c as vs→Rl c bs ws→Rl c (as++bs) (vs++ws)
 | [],_,_,_,h,h'=>by simp only [Rl] at h; subst h; exact h'
 | a :: as,_,_,_,⟨v,r,e,hx,hr⟩,h'=>by subst e; exact ⟨v,_,rfl,hx,hr.append h'⟩
theorem RDl.append {S:Nat→Nat} {w:World}:∀ {as bs:List D} {vs ws:List Value},RDl S w as vs→RDl S w bs ws→RDl S w (as++bs) (vs++ws)
 | [],_,_,_,h,h'=>by simp only [RDl] at h; subst h; exact h'
 | a :: as,_,_,_,⟨v,r,e,hx,hr⟩,h'=>by subst e; exact ⟨v,_,rfl,hx,hr.append h'⟩
theorem Rl.drop {c:C}:∀ (n:Nat) {as:List A} {vs:List Value},Rl c as vs→Rl c (as.drop n) (vs.drop n)
 | 0,_,_,h=>by simpa using h
 | n+1,[],_,h=>by simp only [Rl] at h; subst h; simp [Rl]
 | n+1,a :: as,_,⟨v,r,e,_,hr⟩=>by subst e; simpa using hr.drop n
theorem Rl.take {c:C}:∀ (n:Nat) {as:List A} {vs:List Value},Rl c as vs→Rl c (as.take n) (vs.take n)
 | 0,_,_,h=>by simp [Rl]
 | n+1,[],_,h=>by simp only [Rl] at h; subst h; simp [Rl]
 | n+1,a :: as,_,⟨v,r,e,hx,hr⟩=>by subst e; exact ⟨v,_,by simp,hx,hr.take n⟩
theorem RDl.drop {S:Nat→Nat} {w:World}:∀ (n:Nat) {as:List D} {vs:List Value},RDl S w as vs→RDl S w (as.drop n) (vs.drop n)
 | 0,_,_,h=>by simpa using h
 | n+1,[],_,h=>by simp only [RDl] at h; subst h; simp [RDl]
 | n+1,a :: as,_,⟨v,r,e,_,hr⟩=>by subst e; simpa using hr.drop n
theorem RDl.take {S:Nat→Nat} {w:World}:∀ (n:Nat) {as:List D} {vs:List Value},RDl S w as vs→RDl S w (as.take n) (vs.take n)
 | 0,_,_,h=>by simp [RDl]
 | n+1,[],_,h=>by simp only [RDl] at h; subst h; simp [RDl]
 | n+1,a :: as,_,⟨v,r,e,hx,hr⟩=>by subst e; exact ⟨v,_,by simp,hx,hr.take n⟩
theorem RDat.drop {S:Nat→Nat} {w:World}:∀ (n:Nat) {xs:List D} {b o:Nat},RDat S w xs b o→RDat S w (xs.drop n) b (o+n)
 | 0,_,_,_,h=>by simpa using h
 | n+1,[],_,_,_=>by simp [RDat]
 | n+1,x :: xs,b,o,⟨_,_,hr⟩=>by have:=hr.drop n; rw [show o+(n+1)=o+1+n from by omega]; simpa using this
theorem RDat.take {S:Nat→Nat} {w:World}:∀ (n:Nat) {xs:List D} {b o:Nat},RDat S w xs b o→RDat S w (xs.take n) b o
 | 0,_,_,_,_=>by simp [RDat]
 | n+1,[],_,_,_=>by simp [RDat]
 | n+1,x :: xs,b,o,⟨h1,h2,hr⟩=>⟨h1,h2,hr.take n⟩
theorem RDat.get {S:Nat→Nat} {w:World}:∀ {xs:List D} {b o:Nat},RDat S w xs b o→∀ (i:Nat) (x:D),xs[i]? =some x→∃ v,w.cell? ⟨b,o+i,none⟩=some v∧o+i < S b∧RD S w x v
 | [],_,_,_,i,x,hx=>by simp at hx
 | y :: xs,b,o,⟨h1,⟨v,hv,hy⟩,hr⟩,i,x,hx=>by
   cases i with
   | zero=>simp only [List.getElem?_cons_zero,Option.some.injEq] at hx; subst hx; exact ⟨v,hv,h1,hy⟩
   | succ i=>
     have:=hr.get i x (by simpa using hx)
     rwa [show o+1+i=o+(i+1) from by omega] at this
theorem Rl.map_d {c:C}:∀ {xs:List D} {vs:List Value},RDl c.S c.w xs vs→Rl c (xs.map .d) vs
 | [],_,h=>by simp only [RDl] at h; subst h; simp [Rl]
 | x :: xs,_,⟨v,r,e,hx,hr⟩=>⟨v,r,e,hx,Rl.map_d hr⟩
end Go.Vm
