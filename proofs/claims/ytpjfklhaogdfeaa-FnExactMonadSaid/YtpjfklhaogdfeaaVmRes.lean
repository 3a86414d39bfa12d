/- What is no row of cells: maps, and strings.Builders: what they are in memory. -/
import Derived.Test.YtpjfklhaogdfeaaVmDef
import Derived.Lib.FrozenHead
import Derived.Lib.UnsafeStr
set_option linter.unusedVariables false
set_option linter.unusedSectionVars false
set_option linter.unusedSimpArgs false
namespace Go.Vm
def ZQ (o:Option Obj):List Nat:=match o with
 | some (.cells cs _ _)=>match cs[1]? with
   | some v=>v.ownBlock.toList
   | none=>[]
 | _=>[]
def RK.foot:RK→World→Value→List Nat
 | .map _ _,_,.map (some b)=>[b]
 | .bld _ _,w,.pointer (some a)=>a.block :: ZQ w.heap[a.block]?
 | _,_,_=>[]
def qM (n:Option Nat) (v:Value):List Value:=match n with
 | none=>[v]
 | some _=>match v with
   | .agg vs=>vs.toList
   | _=>[]
def mo (n:Option Nat) (v:Value):Prop:=match n with
 | none=>v.oneCell'=true
 | some m=>∃ vs,v= .agg vs∧vs.size=m
def wl (n:Option Nat):List MapEntry→List Value
 | []=>[]
 | e :: es=>e.key :: (qM n e.val++wl n es)
def RK.Holds:RK→World→Value→List Value→Prop
 | .map _ n,w,v,vs=>∃ b es clock,v= .map (some b)∧w.heap[b]? =some (.map es clock)∧(∀ e ∈ es.toList,mo n e.val)∧vs=wl n es.toList
 | .bld T e,w,v,vs=>∃ b s,v= .pointer (some ⟨b,0,none⟩)∧vs=[.string s]∧Lib.IsBuilderF T e 0 b (Lib.byteCells s.data.toList) w
def lC:D→List D
 | .lst _ cs=>cs
 | x=>[x]
theorem gF {T e:TypeId} {b:Nat} {bs:List Value} {w:World} (h:Lib.IsBuilderF T e 0 b bs w):∃ p v,(p= .pointer none ∨ p= .pointer (some ⟨b,0,none⟩))∧
  w.heap[b]? =some (.cells #[p,v] T (0,0))∧w.ownsRowF 0 e 1 v bs.length bs∧v.ownBlock ≠ some b∧(RK.bld T e).foot w (.pointer (some ⟨b,0,none⟩))=b :: v.ownBlock.toList:=by
 rcases h with ⟨_,v,h1,h2,h3⟩ | ⟨_,v,h1,h2,h3⟩
 ·exact ⟨_,v,.inl rfl,h1,h2,h3,by simp only [RK.foot,h1,ZQ]; rfl⟩
 ·exact ⟨_,v,.inr rfl,h1,h2,h3,by simp only [RK.foot,h1,ZQ]; rfl⟩
theorem SX {T e:TypeId} {b:Nat} {bs:List Value} {w:World} {p v:Value} (hp:p= .pointer none ∨ p= .pointer (some ⟨b,0,none⟩)) (h1:w.heap[b]? =some (.cells #[p,v] T (0,0)))
  (h2:w.ownsRowF 0 e 1 v bs.length bs) (h3:v.ownBlock ≠ some b):Lib.IsBuilderF T e 0 b bs w:=by
 rcases hp with rfl | rfl
 ·exact .inl ⟨Nat.zero_le _,v,h1,h2,h3⟩
 ·exact .inr ⟨Nat.zero_le _,v,h1,h2,h3⟩
theorem ZA {w w':World} {e sz n:Nat} {v:Value} {xs:List Value} (h:w.ownsRowF 0 e sz v n xs) (hb:∀ b,v.ownBlock=some b→w'.heap[b]? =w.heap[b]?):
  w'.ownsRowF 0 e sz v n xs:=by
 refine ⟨h.1,?_⟩
 rcases h.2 with hn | ⟨g,cap,cur,fz,rfl,h1,h2,rest⟩
 ·exact .inl hn
 ·exact .inr ⟨g,cap,cur,fz,rfl,h1,by rw [hb g rfl]; exact h2,rest⟩
theorem WF {w:World} {b:Nat} {x:Obj} (h:w.heap[b]? =some x):b < w.heap.size:=(Array.getElem?_eq_some_iff.1 h).1
theorem RK.Holds.keep {k:RK} {w w':World} {v:Value} {vs:List Value} (h:k.Holds w v vs) (hb:∀ b ∈ k.foot w v,w'.heap[b]? =w.heap[b]?):k.Holds w' v vs∧k.foot w' v=k.foot w v:=by
 cases k with
 | map t n=>
   obtain ⟨b,es,cl,rfl,h1,h2,h3⟩:=h
   exact ⟨⟨b,es,cl,rfl,by rw [hb b (by simp [RK.foot])]; exact h1,h2,h3⟩,rfl⟩
 | bld T e=>
   obtain ⟨b,s,rfl,h1,h2⟩:=h
   obtain ⟨p,u,hp,k1,k2,k3,k4⟩:=gF h2
   rw [k4] at hb
   have e1:w'.heap[b]? =w.heap[b]? :=hb b (by simp)
   have h2':Lib.IsBuilderF T e 0 b (Lib.byteCells s.data.toList) w':=SX hp (by rw [e1]; exact k1) (ZA k2 fun g hg=>hb g (by simp [hg])) k3
   exact ⟨⟨b,s,rfl,h1,h2'⟩,by simp only [RK.foot,e1]⟩
theorem RK.Holds.lt {k:RK} {w:World} {v:Value} {vs:List Value} (h:k.Holds w v vs):∀ b ∈ k.foot w v,b < w.heap.size:=by
 cases k with
 | map t n=>
   obtain ⟨b,es,cl,rfl,h1,h2,h3⟩:=h
   intro c hc
   simp only [RK.foot,List.mem_singleton] at hc
   subst hc; exact WF h1
 | bld T e=>
   obtain ⟨b,s,rfl,h1,h2⟩:=h
   obtain ⟨p,u,hp,k1,k2,k3,k4⟩:=gF h2
   rw [k4]
   intro c hc
   rcases List.mem_cons.1 hc with rfl | hc
   ·exact WF k1
   ·exact (k2.lt c (by simpa using hc)).2
theorem RK.Holds.nodup {k:RK} {w:World} {v:Value} {vs:List Value} (h:k.Holds w v vs):(k.foot w v).Nodup:=by
 cases k with
 | map t n=>
   obtain ⟨b,es,cl,rfl,h1,h2,h3⟩:=h
   simp [RK.foot]
 | bld T e=>
   obtain ⟨b,s,rfl,h1,h2⟩:=h
   obtain ⟨p,u,hp,k1,k2,k3,k4⟩:=gF h2
   rw [k4]
   cases ho:u.ownBlock with
   | none=>simp
   | some g=>
     simp only [Option.toList,List.nodup_cons,List.mem_singleton,List.not_mem_nil,not_false_eq_true,List.nodup_nil,and_true]
     rintro rfl; exact k3 ho
theorem RK.Holds.one {k:RK} {w:World} {v:Value} {vs:List Value} (h:k.Holds w v vs):v.oneCell'=true:=by
 cases k with
 | map t n=>obtain ⟨b,es,cl,rfl,_⟩:=h; rfl
 | bld T e=>obtain ⟨b,s,rfl,_⟩:=h; rfl
end Go.Vm
