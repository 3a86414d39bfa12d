/- What the abstract machine's values say of the model's memory. -/
import Derived.Test.YtpjfklhaogdfeaaGreatDoorVmRes
set_option linter.unusedVariables false
set_option linter.unusedSectionVars false
set_option linter.unusedSimpArgs false
namespace Go.Vm
mutual
def RD (S:Nat→Nat) (w:World):D→Value→Prop
 | .int k n,v=>v= .int k n
 | .bool b,v=>v= .bool b
 | .str s,v=>v= .string s
 | .lst n cs,v=>∃ a cap,v= .slice a n cap∧n ≤ cap∧(a=none→n=0∧cap=0∧cs=[])∧∀ p,a=some p→(p.spot=none ∨ cap=0∧cs=[])∧RDat S w cs p.block p.off
 | .fn f,v=>v= .func (.func f) #[] #[]
 | .iface t x,v=>∃ u,v= .iface t u∧RD S w x u
 | .ifaceS t cs,v=>∃ us,v= .iface t (.agg us)∧RDl S w cs us.toList
 | .nilp,v=>v= .pointer none
 | .nilf,v=>v= .nilFunc
 | .nili,v=>v= .nilIface
 | .nils,v=>v= .slice none 0 0
 | .lstS n cs,v=>∃ p cap,v= .slice (some p) n cap∧n ≤ cap∧(p.spot=none ∨ cap=0∧cs=[])∧RDat S w cs p.block p.off
 | .opq,v=>v.oneCell'=true
def RDat (S:Nat→Nat) (w:World):List D→Nat→Nat→Prop
 | [],_,_=>True
 | x :: xs,b,o=>o < S b∧(∃ v,w.cell? ⟨b,o,none⟩=some v∧RD S w x v)∧RDat S w xs b (o+1)
def RDl (S:Nat→Nat) (w:World):List D→List Value→Prop
 | [],vs=>vs=[]
 | x :: xs,vs=>∃ v r,vs=v :: r∧RD S w x v∧RDl S w xs r
end
def Stab (S:Nat→Nat) (w:World) (S':Nat→Nat) (w':World):Prop:=
 ∀ b o v,o < S b→w.cell? ⟨b,o,none⟩=some v→o < S' b∧w'.cell? ⟨b,o,none⟩=some v
theorem Stab.refl (S:Nat→Nat) (w:World):Stab S w S w:=fun _ _ _ h h'=>⟨h,h'⟩
theorem Stab.trans {S S' S'':Nat→Nat} {w w' w'':World} (h:Stab S w S' w') (h':Stab S' w' S'' w''):Stab S w S'' w'':=
 fun b o v ho hv=>let ⟨a,c⟩:=h b o v ho hv; h' b o v a c
section
variable {S S':Nat→Nat} {w w':World} (h:Stab S w S' w')
include h
mutual
theorem RD.mono:∀ (x:D) (v:Value),RD S w x v→RD S' w' x v
 | .int _ _,_,H=>H
 | .bool _,_,H=>H
 | .str _,_,H=>H
 | .lst n cs,v,⟨a,cap,e1,e2,e3,e4⟩=>⟨a,cap,e1,e2,e3,fun p hp=>⟨(e4 p hp).1,RDat.mono cs p.block p.off (e4 p hp).2⟩⟩
 | .fn _,_,H=>H
 | .iface t x,v,⟨u,e,hu⟩=>⟨u,e,RD.mono x u hu⟩
 | .ifaceS t cs,v,⟨us,e,hu⟩=>⟨us,e,RDl.mono cs _ hu⟩
 | .nilp,_,H=>H
 | .nilf,_,H=>H
 | .nili,_,H=>H
 | .nils,_,H=>H
 | .lstS n cs,v,⟨p,cap,e1,e2,e3,e4⟩=>⟨p,cap,e1,e2,e3,RDat.mono cs p.block p.off e4⟩
 | .opq,_,H=>H
theorem RDat.mono:∀ (xs:List D) (b o:Nat),RDat S w xs b o→RDat S' w' xs b o
 | [],_,_,_=>trivial
 | x :: xs,b,o,⟨ho,⟨v,hv,hx⟩,hr⟩=>let ⟨a,c⟩:=h b o v ho hv; ⟨a,⟨v,c,RD.mono x v hx⟩,RDat.mono xs b (o+1) hr⟩
theorem RDl.mono:∀ (xs:List D) (vs:List Value),RDl S w xs vs→RDl S' w' xs vs
 | [],_,H=>H
 | x :: xs,vs,⟨v,r,e,hx,hr⟩=>⟨v,r,e,RD.mono x v hx,RDl.mono xs r hr⟩
end
end
structure C where
 S:Nat→Nat
 w:World
 hd:Nat→Value
 ob:Nat→Ob
def vwV (lo sz:Nat):Value→Value
 | .slice a n cap=> .slice (if cap=lo then a else a.map (·.add (lo * sz))) (n - lo) (cap - lo)
 | v=>v
mutual
def R (c:C):A→Value→Prop
 | .undef,_=>True
 | .d x,v=>RD c.S c.w x v
 | .nil,v=>v= .slice none 0 0
 | .row id ver,v=>v.oneCell'=true∧ver ≤ (c.ob id).ver∧(ver=(c.ob id).ver→(c.ob id).o.isRow=true→v=c.hd id)
 | .adr id ver off,v=>v.oneCell'=true∧ver ≤ (c.ob id).ver∧(ver=(c.ob id).ver→(c.ob id).o.isBox=true→∃ b,c.hd id= .pointer (some ⟨b,0,none⟩)∧v= .pointer (some ⟨b,off,none⟩))
 | .rad id ver off,v=>v.oneCell'=true∧ver ≤ (c.ob id).ver∧(ver=(c.ob id).ver→(c.ob id).o.isRow=true→∃ b n k,c.hd id= .slice (some ⟨b,0,none⟩) n k∧v= .pointer (some ⟨b,off,none⟩))
 | .vw id ver lo sz,v=>v.oneCell'=true∧ver ≤ (c.ob id).ver∧(ver=(c.ob id).ver→(c.ob id).o.isRow=true→v=vwV lo sz (c.hd id))
 | .cp cs,v=>∃ b o,v= .pointer (some ⟨b,o,none⟩)∧RDat c.S c.w cs b o
 | .agg cs,v=>∃ vs,v= .agg vs∧Rl c cs vs.toList
 | .tup cs,v=>∃ vs,v= .tuple vs∧Rl c cs vs.toList
def Rl (c:C):List A→List Value→Prop
 | [],vs=>vs=[]
 | a :: as,vs=>∃ v r,vs=v :: r∧R c a v∧Rl c as r
end
structure Le (c c':C):Prop where
 stab:Stab c.S c.w c'.S c'.w
 ver:∀ id,(c.ob id).ver ≤ (c'.ob id).ver
 same:∀ id,(c'.ob id).ver=(c.ob id).ver→(c'.ob id).o.isRow=(c.ob id).o.isRow∧(c'.ob id).o.isBox=(c.ob id).o.isBox∧c'.hd id=c.hd id
theorem Le.refl (c:C):Le c c:=⟨Stab.refl _ _,fun _=>Nat.le_refl _,fun _ _=>⟨rfl,rfl,rfl⟩⟩
section
variable {c c':C} (h:Le c c')
include h
mutual
theorem R.mono:∀ (a:A) (v:Value),R c a v→R c' a v
 | .undef,_,_=>trivial
 | .d x,v,H=>RD.mono h.stab x v H
 | .nil,_,H=>H
 | .row id ver,v,⟨h1,h2,h3⟩=>⟨h1,Nat.le_trans h2 (h.ver id),fun e f=>by
     have e':(c'.ob id).ver=(c.ob id).ver:=by have:=h.ver id; omega
     have s:=h.same id e'
     rw [s.2.2]; exact h3 (by omega) (by rw [← s.1]; exact f)⟩
 | .adr id ver off,v,⟨h1,h2,h3⟩=>⟨h1,Nat.le_trans h2 (h.ver id),fun e f=>by
     have e':(c'.ob id).ver=(c.ob id).ver:=by have:=h.ver id; omega
     have s:=h.same id e'
     rw [s.2.2]; exact h3 (by omega) (by rw [← s.2.1]; exact f)⟩
 | .rad id ver off,v,⟨h1,h2,h3⟩=>⟨h1,Nat.le_trans h2 (h.ver id),fun e f=>by
     have e':(c'.ob id).ver=(c.ob id).ver:=by have:=h.ver id; omega
     have s:=h.same id e'
     rw [s.2.2]; exact h3 (by omega) (by rw [← s.1]; exact f)⟩
 | .vw id ver lo sz,v,⟨h1,h2,h3⟩=>⟨h1,Nat.le_trans h2 (h.ver id),fun e f=>by
     have e':(c'.ob id).ver=(c.ob id).ver:=by have:=h.ver id; omega
     have s:=h.same id e'
     rw [s.2.2]; exact h3 (by omega) (by rw [← s.1]; exact f)⟩
 | .cp cs,v,⟨b,o,e,H⟩=>⟨b,o,e,RDat.mono h.stab cs b o H⟩
 | .agg cs,v,⟨vs,e,H⟩=>⟨vs,e,Rl.mono cs _ H⟩
 | .tup cs,v,⟨vs,e,H⟩=>⟨vs,e,Rl.mono cs _ H⟩
theorem Rl.mono:∀ (as:List A) (vs:List Value),Rl c as vs→Rl c' as vs
 | [],_,H=>H
 | a :: as,vs,⟨v,r,e,ha,hr⟩=>⟨v,r,e,R.mono a v ha,Rl.mono as r hr⟩
end
end
def ObOK (c:C) (role:Nat→Option Nat) (id:Nat):Prop:=
 match (c.ob id).o with
 | .dead=>True
 | .box cells=>∃ b cs et,c.hd id= .pointer (some ⟨b,0,none⟩)∧c.w.heap[b]? =some (.cells cs et (0,0))∧Rl c cells cs.toList∧cells.all one=true∧
     c.S b=0∧role b=some id
 | .row e size n cap cells=>∃ xs,c.w.ownsRow 0 e size (c.hd id) n xs∧RDl c.S c.w cells xs∧
     (∀ b,(c.hd id).ownBlock=some b→role b=some id∧c.S b=if (c.ob id).leak then n * size else 0)∧
     (∀ k,cap=some k→∃ a,c.hd id= .slice a n k)
 | .res k x=>∃ vs,k.Holds c.w (c.hd id) vs∧RDl c.S c.w (oS x) vs∧∀ b ∈ k.foot c.w (c.hd id),role b=some id∧c.S b=0
structure Ext (c c':C) (role role':Nat→Option Nat):Prop where
 le:Le c c'
 os:c'.w.os=c.w.os
 tape:c'.w.tape=c.w.tape
 output:c'.w.output=c.w.output
 size:c.w.heap.size ≤ c'.w.heap.size
 heap:∀ b,b < c.w.heap.size→role b=none→c'.w.heap[b]? =c.w.heap[b]? ∧c'.S b=c.S b
 role:∀ b,b < c.w.heap.size→role' b=role b
 obs:∀ id,ObOK c' role' id
structure Fr where
 N:Nx
 w0:World
 S0:Nat→Nat
 role0:Nat→Option Nat
 par:List (Nat×Value)
 dfr:List Deferred:=[]
 fv:Nat→Value:=fun _=> .nilFunc
class Gl where
 G:Nat
 g:Nat→Option Obj
def Ld [Gl] (w:World) (role:Nat→Option Nat):Prop:=Gl.G ≤ w.heap.size∧∀ b,b < Gl.G→w.heap[b]? =Gl.g b∧role b=none
def fK [Gl] (w:World) (bs:List Nat):Prop:=bs.Nodup∧Gl.G ≤ w.heap.size∧∀ b,b < Gl.G→w.heap[b]? =Gl.g b∧b ∉ bs
variable [Gl]
structure Inv (F:Fr) (st:St) (S:Nat→Nat) (hd:Nat→Value) (role:Nat→Option Nat) (act:Act) (w:World):Prop where
 num:act.tmps.size=F.N.n
 dfr:act.defers=F.dfr
 fix:∀ n ∈ F.N.fix,act.tmps.getD n undef=F.fv n
 slots:∀ n,R ⟨S,w,hd,st.ob⟩ (st.slot n) (act.tmps.getD n undef)
 obs:∀ id,ObOK ⟨S,w,hd,st.ob⟩ role id
 os:w.os=F.w0.os
 tape:w.tape=F.w0.tape
 output:w.output=F.w0.output
 size:F.w0.heap.size ≤ w.heap.size
 heap:∀ b,b < F.w0.heap.size→F.role0 b=none→w.heap[b]? =F.w0.heap[b]? ∧S b=F.S0 b
 gl:Ld w role
 roleP:(∀ b i,F.role0 b=some i→i ∈ F.par.map (·.1))∧∀ b i,b < F.w0.heap.size→F.role0 b=some i→role b=some i
 role:∀ b,b < F.w0.heap.size→F.role0 b=none→role b=none
 par:∀ p ∈ F.par,1 ≤ (st.ob p.1).ver∧((st.ob p.1).ver=1→hd p.1=p.2)
end Go.Vm
