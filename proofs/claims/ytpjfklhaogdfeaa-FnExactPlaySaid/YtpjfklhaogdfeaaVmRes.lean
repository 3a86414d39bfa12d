/- What is no row of cells: maps, and strings.Builders: what they are in memory. -/
import Derived.Test.YtpjfklhaogdfeaaVmDef
import Derived.Lib.FrozenHead
import Derived.Lib.UnsafeStr
set_option linter.unusedVariables false
set_option linter.unusedSectionVars false
set_option linter.unusedSimpArgs false
namespace Go.Vm
def iA (o:Option Obj):List Nat:=match o with
 | some (.cells cs _ _)=>match cs[1]? with
   | some v=>v.ownBlock.toList
   | none=>[]
 | _=>[]
structure Th where
 foot:World→Value→List Nat
 Holds:World→Value→List Value→Prop
 keep:∀ {w w':World} {v:Value} {vs:List Value},Holds w v vs→(∀ b ∈ foot w v,w'.heap[b]? =w.heap[b]?)→Holds w' v vs∧foot w' v=foot w v
 lt:∀ {w:World} {v:Value} {vs:List Value},Holds w v vs→∀ b ∈ foot w v,b < w.heap.size
 nodup:∀ {w:World} {v:Value} {vs:List Value},Holds w v vs→(foot w v).Nodup
 one:∀ {w:World} {v:Value} {vs:List Value},Holds w v vs→v.oneCell'=true
def U9 (o:Option Obj) (k:Nat):List Nat:=match o with
 | some (.cells cs _ _)=>(cs.toList.take k).flatMap fun v=>v.ownBlock.toList
 | _=>[]
def kV (k:Nat) (w:World) (v:Value):List Nat:=match v with
 | .slice (some a) n _=>a.block :: U9 w.heap[a.block]? (n * k)
 | _=>[]
def mt (w:World) (e:TypeId):List Value→List Value→Prop
 | [],vs=>vs=[]
 | u :: us,vs=>∃ n xs r,w.ownsRow 0 e 1 u n xs∧vs= .int .i64 (n:Nat) :: (xs++r)∧mt w e us r
def VV (k:Nat) (T e:TypeId) (w:World) (v:Value) (vs:List Value):Prop:=∃ n us,w.ownsRow 0 T k v n us∧mt w e us vs∧(kV k w v).Nodup
theorem cC {w w':World} {e:TypeId} {sz n:Nat} {v:Value} {xs:List Value} (h:w.ownsRow 0 e sz v n xs) (hb:∀ b,v.ownBlock=some b→w'.heap[b]? =w.heap[b]?):w'.ownsRow 0 e sz v n xs:=by
 refine ⟨h.1,?_⟩
 rcases h.2 with hn | ⟨g,cap,cur,rfl,h1,h2,rest⟩
 ·exact .inl hn
 ·exact .inr ⟨g,cap,cur,rfl,h1,by rw [hb g rfl]; exact h2,rest⟩
theorem Y8 {w:World} {e:TypeId} {sz n:Nat} {v:Value} {xs:List Value} (h:w.ownsRow 0 e sz v n xs) {b:Nat} (hb:v.ownBlock=some b):b < w.heap.size:=by
 rcases h.2 with ⟨rfl,_⟩ | ⟨g,cap,cur,rfl,h1,h2,rest⟩
 ·cases hb
 ·cases hb
  exact (Array.getElem?_eq_some_iff.1 h2).1
theorem jq {w w':World} {e:TypeId}:∀ {us vs:List Value},mt w e us vs→(∀ u ∈ us,∀ b,u.ownBlock=some b→w'.heap[b]? =w.heap[b]?)→mt w' e us vs
 | [],vs,h,_=>h
 | u :: us,vs,⟨n,xs,r,h1,h2,h3⟩,hb=>⟨n,xs,r,cC h1 (hb u (by simp)),h2,jq h3 fun x hx=>hb x (by simp [hx])⟩
theorem gD {w:World} {e:TypeId}:∀ {us vs:List Value},mt w e us vs→∀ u ∈ us,∀ b,u.ownBlock=some b→b < w.heap.size
 | u :: us,vs,⟨n,xs,r,h1,h2,h3⟩,x,hx,b,hb=>by
   rcases List.mem_cons.1 hx with rfl | hx
   ·exact Y8 h1 hb
   ·exact gD h3 x hx b hb
theorem j0 {k:Nat} {T:TypeId} {w:World} {v:Value} {n:Nat} {us:List Value} (h:w.ownsRow 0 T k v n us):kV k w v=v.ownBlock.toList++us.flatMap fun u=>u.ownBlock.toList:=by
 rcases h.2 with ⟨rfl,rfl⟩ | ⟨g,cap,cur,rfl,h1,h2,h3,h4,h5,h6⟩
 ·have:us=[]:=List.eq_nil_of_length_eq_zero (by simpa using h.1)
  subst this; rfl
 ·simp only [kV,h2,U9,h6]; rfl
def Ke (k:Nat) (T e:TypeId):Th where
 foot:=kV k
 Holds:=VV k T e
 keep:=by
  intro w w' v vs ⟨n,us,h1,h2,h3⟩ hb
  have hf:=j0 h1
  rw [hf] at hb
  have h1':w'.ownsRow 0 T k v n us:=cC h1 fun b q=>hb b (by simp [q])
  have hf':=j0 h1'
  exact ⟨⟨n,us,h1',jq h2 fun u hu b q=>hb b (List.mem_append_right _ (List.mem_flatMap.2 ⟨u,hu,by simp [q]⟩)),by rw [hf',← hf]; exact h3⟩,hf'.trans hf.symm⟩
 lt:=by
  intro w v vs ⟨n,us,h1,h2,h3⟩ b hb
  rw [j0 h1] at hb
  rcases List.mem_append.1 hb with hb | hb
  ·exact Y8 h1 (by simpa using hb)
  ·obtain ⟨u,hu,q⟩:=List.mem_flatMap.1 hb
   exact gD h2 u hu b (by simpa using q)
 nodup:=fun ⟨n,us,h1,h2,h3⟩=>h3
 one:=by
  intro w v vs ⟨n,us,h1,h2,h3⟩
  rcases h1.2 with ⟨rfl,_⟩ | ⟨g,cap,cur,rfl,_⟩ <;> rfl
def d9 (i:Nat) (a b:TypeId):Th:=Ke i a b
def RK.foot:RK→World→Value→List Nat
 | .map _ _,_,.map (some b)=>[b]
 | .bld _ _,w,.pointer (some a)=>a.block :: iA w.heap[a.block]?
 | .ext i a b,w,v=>(d9 i a b).foot w v
 | _,_,_=>[]
def rH (n:Option Nat) (v:Value):List Value:=match n with
 | none=>[v]
 | some _=>match v with
   | .agg vs=>vs.toList
   | _=>[]
def oU (n:Option Nat) (v:Value):Prop:=match n with
 | none=>v.oneCell'=true
 | some m=>∃ vs,v= .agg vs∧vs.size=m
def xQ (n:Option Nat):List MapEntry→List Value
 | []=>[]
 | e :: es=>e.key :: (rH n e.val++xQ n es)
def RK.Holds:RK→World→Value→List Value→Prop
 | .map _ n,w,v,vs=>∃ b es clock,v= .map (some b)∧w.heap[b]? =some (.map es clock)∧(∀ e ∈ es.toList,oU n e.val)∧vs=xQ n es.toList
 | .bld T e,w,v,vs=>∃ b s,v= .pointer (some ⟨b,0,none⟩)∧vs=[.string s]∧Lib.IsBuilderF T e 0 b (Lib.byteCells s.data.toList) w
 | .ext i a b,w,v,vs=>(d9 i a b).Holds w v vs
def mq:D→List D
 | .lst _ cs=>cs
 | x=>[x]
theorem j6 {T e:TypeId} {b:Nat} {bs:List Value} {w:World} (h:Lib.IsBuilderF T e 0 b bs w):∃ p v,(p= .pointer none ∨ p= .pointer (some ⟨b,0,none⟩))∧
  w.heap[b]? =some (.cells #[p,v] T (0,0))∧w.ownsRowF 0 e 1 v bs.length bs∧v.ownBlock ≠ some b∧(RK.bld T e).foot w (.pointer (some ⟨b,0,none⟩))=b :: v.ownBlock.toList:=by
 rcases h with ⟨_,v,h1,h2,h3⟩ | ⟨_,v,h1,h2,h3⟩
 ·exact ⟨_,v,.inl rfl,h1,h2,h3,by simp only [RK.foot,h1,iA]; rfl⟩
 ·exact ⟨_,v,.inr rfl,h1,h2,h3,by simp only [RK.foot,h1,iA]; rfl⟩
theorem Tt {T e:TypeId} {b:Nat} {bs:List Value} {w:World} {p v:Value} (hp:p= .pointer none ∨ p= .pointer (some ⟨b,0,none⟩)) (h1:w.heap[b]? =some (.cells #[p,v] T (0,0)))
  (h2:w.ownsRowF 0 e 1 v bs.length bs) (h3:v.ownBlock ≠ some b):Lib.IsBuilderF T e 0 b bs w:=by
 rcases hp with rfl | rfl
 ·exact .inl ⟨Nat.zero_le _,v,h1,h2,h3⟩
 ·exact .inr ⟨Nat.zero_le _,v,h1,h2,h3⟩
theorem rk {w w':World} {e sz n:Nat} {v:Value} {xs:List Value} (h:w.ownsRowF 0 e sz v n xs) (hb:∀ b,v.ownBlock=some b→w'.heap[b]? =w.heap[b]?):
  w'.ownsRowF 0 e sz v n xs:=by
 refine ⟨h.1,?_⟩
 rcases h.2 with hn | ⟨g,cap,cur,fz,rfl,h1,h2,rest⟩
 ·exact .inl hn
 ·exact .inr ⟨g,cap,cur,fz,rfl,h1,by rw [hb g rfl]; exact h2,rest⟩
theorem v7 {w:World} {b:Nat} {x:Obj} (h:w.heap[b]? =some x):b < w.heap.size:=(Array.getElem?_eq_some_iff.1 h).1
theorem RK.Holds.keep {k:RK} {w w':World} {v:Value} {vs:List Value} (h:k.Holds w v vs) (hb:∀ b ∈ k.foot w v,w'.heap[b]? =w.heap[b]?):k.Holds w' v vs∧k.foot w' v=k.foot w v:=by
 cases k with
 | map t n=>
   obtain ⟨b,es,cl,rfl,h1,h2,h3⟩:=h
   exact ⟨⟨b,es,cl,rfl,by rw [hb b (by simp [RK.foot])]; exact h1,h2,h3⟩,rfl⟩
 | bld T e=>
   obtain ⟨b,s,rfl,h1,h2⟩:=h
   obtain ⟨p,u,hp,k1,k2,k3,k4⟩:=j6 h2
   rw [k4] at hb
   have e1:w'.heap[b]? =w.heap[b]? :=hb b (by simp)
   have h2':Lib.IsBuilderF T e 0 b (Lib.byteCells s.data.toList) w':=Tt hp (by rw [e1]; exact k1) (rk k2 fun g hg=>hb g (by simp [hg])) k3
   exact ⟨⟨b,s,rfl,h1,h2'⟩,by simp only [RK.foot,e1]⟩
 | ext i x y=>exact (d9 i x y).keep h hb
theorem RK.Holds.lt {k:RK} {w:World} {v:Value} {vs:List Value} (h:k.Holds w v vs):∀ b ∈ k.foot w v,b < w.heap.size:=by
 cases k with
 | map t n=>
   obtain ⟨b,es,cl,rfl,h1,h2,h3⟩:=h
   intro c hc
   simp only [RK.foot,List.mem_singleton] at hc
   subst hc; exact v7 h1
 | bld T e=>
   obtain ⟨b,s,rfl,h1,h2⟩:=h
   obtain ⟨p,u,hp,k1,k2,k3,k4⟩:=j6 h2
   rw [k4]
   intro c hc
   rcases List.mem_cons.1 hc with rfl | hc
   ·exact v7 k1
   ·exact (k2.lt c (by simpa using hc)).2
 | ext i x y=>exact (d9 i x y).lt h
theorem RK.Holds.nodup {k:RK} {w:World} {v:Value} {vs:List Value} (h:k.Holds w v vs):(k.foot w v).Nodup:=by
 cases k with
 | map t n=>
   obtain ⟨b,es,cl,rfl,h1,h2,h3⟩:=h
   simp [RK.foot]
 | bld T e=>
   obtain ⟨b,s,rfl,h1,h2⟩:=h
   obtain ⟨p,u,hp,k1,k2,k3,k4⟩:=j6 h2
   rw [k4]
   cases ho:u.ownBlock with
   | none=>simp
   | some g=>
     simp only [Option.toList,List.nodup_cons,List.mem_singleton,List.not_mem_nil,not_false_eq_true,List.nodup_nil,and_true]
     rintro rfl; exact k3 ho
 | ext i x y=>exact (d9 i x y).nodup h
theorem RK.Holds.one {k:RK} {w:World} {v:Value} {vs:List Value} (h:k.Holds w v vs):v.oneCell'=true:=by
 cases k with
 | map t n=>obtain ⟨b,es,cl,rfl,_⟩:=h; rfl
 | bld T e=>obtain ⟨b,s,rfl,_⟩:=h; rfl
 | ext i x y=>exact (d9 i x y).one h
end Go.Vm
