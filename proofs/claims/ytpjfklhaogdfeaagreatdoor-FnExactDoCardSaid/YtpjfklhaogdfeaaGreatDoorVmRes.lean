/- What is no row of cells: maps, and strings.Builders: what they are in memory. -/
import Derived.Test.YtpjfklhaogdfeaaGreatDoorVmDef
import Derived.Lib.FrozenHead
import Derived.Lib.UnsafeStr
set_option linter.unusedVariables false
set_option linter.unusedSectionVars false
set_option linter.unusedSimpArgs false
namespace Go.Vm
def je (o:Option Obj):List Nat:=match o with
 | some (.cells cs _ _)=>match cs[1]? with
   | some v=>v.ownBlock.toList
   | none=>[]
 | _=>[]
structure Th where
 foot:World→Value→List Nat
 Holds:World→Value→List Value→Prop
 keep:∀ {w w':World} {v:Value} {vs:List Value},Holds w v vs→(∀ b ∈ foot w v,w'.heap[b]? =w.heap[b]?)→Holds w' v vs∧foot w' v=foot w v
 lt:∀ {w:World} {v:Value} {vs:List Value},Holds w v vs→∀ b ∈ foot w v,b < w.heap.size
 nodup:∀ {w:World} {v:Value} {vs:List Value},Holds w v vs→(foot w v).Nodup
 one:∀ {w:World} {v:Value} {vs:List Value},Holds w v vs→v.oneCell'=true
def XZ (o:Option Obj) (k:Nat):List Nat:=match o with
 | some (.cells cs _ _)=>(cs.toList.take k).flatMap fun v=>v.ownBlock.toList
 | _=>[]
def lu (k:Nat) (w:World) (v:Value):List Nat:=match v with
 | .slice (some a) n _=>a.block :: XZ w.heap[a.block]? (n * k)
 | _=>[]
def ni (w:World) (e:TypeId):List Value→List Value→Prop
 | [],vs=>vs=[]
 | u :: us,vs=>∃ n xs r,w.ownsRow 0 e 1 u n xs∧vs= .int .i64 (n:Nat) :: (xs++r)∧ni w e us r
def Vf (k:Nat) (T e:TypeId) (w:World) (v:Value) (vs:List Value):Prop:=∃ n us,w.ownsRow 0 T k v n us∧ni w e us vs∧(lu k w v).Nodup
theorem eJ {w w':World} {e:TypeId} {sz n:Nat} {v:Value} {xs:List Value} (h:w.ownsRow 0 e sz v n xs) (hb:∀ b,v.ownBlock=some b→w'.heap[b]? =w.heap[b]?):w'.ownsRow 0 e sz v n xs:=by
 refine ⟨h.1,?_⟩
 rcases h.2 with hn | ⟨g,cap,cur,rfl,h1,h2,rest⟩
 ·exact .inl hn
 ·exact .inr ⟨g,cap,cur,rfl,h1,by rw [hb g rfl]; exact h2,rest⟩
theorem ZH {w:World} {e:TypeId} {sz n:Nat} {v:Value} {xs:List Value} (h:w.ownsRow 0 e sz v n xs) {b:Nat} (hb:v.ownBlock=some b):b < w.heap.size:=by
 rcases h.2 with ⟨rfl,_⟩ | ⟨g,cap,cur,rfl,h1,h2,rest⟩
 ·cases hb
 ·cases hb
  exact (Array.getElem?_eq_some_iff.1 h2).1
theorem lQ {w w':World} {e:TypeId}:∀ {us vs:List Value},ni w e us vs→(∀ u ∈ us,∀ b,u.ownBlock=some b→w'.heap[b]? =w.heap[b]?)→ni w' e us vs
 | [],vs,h,_=>h
 | u :: us,vs,⟨n,xs,r,h1,h2,h3⟩,hb=>⟨n,xs,r,eJ h1 (hb u (by simp)),h2,lQ h3 fun x hx=>hb x (by simp [hx])⟩
theorem jJ {w:World} {e:TypeId}:∀ {us vs:List Value},ni w e us vs→∀ u ∈ us,∀ b,u.ownBlock=some b→b < w.heap.size
 | u :: us,vs,⟨n,xs,r,h1,h2,h3⟩,x,hx,b,hb=>by
   rcases List.mem_cons.1 hx with rfl | hx
   ·exact ZH h1 hb
   ·exact jJ h3 x hx b hb
theorem kW {k:Nat} {T:TypeId} {w:World} {v:Value} {n:Nat} {us:List Value} (h:w.ownsRow 0 T k v n us):lu k w v=v.ownBlock.toList++us.flatMap fun u=>u.ownBlock.toList:=by
 rcases h.2 with ⟨rfl,rfl⟩ | ⟨g,cap,cur,rfl,h1,h2,h3,h4,h5,h6⟩
 ·have:us=[]:=List.eq_nil_of_length_eq_zero (by simpa using h.1)
  subst this; rfl
 ·simp only [lu,h2,XZ,h6]; rfl
def Ng (k:Nat) (T e:TypeId):Th where
 foot:=lu k
 Holds:=Vf k T e
 keep:=by
  intro w w' v vs ⟨n,us,h1,h2,h3⟩ hb
  have hf:=kW h1
  rw [hf] at hb
  have h1':w'.ownsRow 0 T k v n us:=eJ h1 fun b q=>hb b (by simp [q])
  have hf':=kW h1'
  exact ⟨⟨n,us,h1',lQ h2 fun u hu b q=>hb b (List.mem_append_right _ (List.mem_flatMap.2 ⟨u,hu,by simp [q]⟩)),by rw [hf',← hf]; exact h3⟩,hf'.trans hf.symm⟩
 lt:=by
  intro w v vs ⟨n,us,h1,h2,h3⟩ b hb
  rw [kW h1] at hb
  rcases List.mem_append.1 hb with hb | hb
  ·exact ZH h1 (by simpa using hb)
  ·obtain ⟨u,hu,q⟩:=List.mem_flatMap.1 hb
   exact jJ h2 u hu b (by simpa using q)
 nodup:=fun ⟨n,us,h1,h2,h3⟩=>h3
 one:=by
  intro w v vs ⟨n,us,h1,h2,h3⟩
  rcases h1.2 with ⟨rfl,_⟩ | ⟨g,cap,cur,rfl,_⟩ <;> rfl
def gY (i:Nat) (a b:TypeId):Th:=Ng i a b
def RK.foot:RK→World→Value→List Nat
 | .map _ _,_,.map (some b)=>[b]
 | .bld _ _,w,.pointer (some a)=>a.block :: je w.heap[a.block]?
 | .ext i a b,w,v=>(gY i a b).foot w v
 | _,_,_=>[]
def sy (n:Option Nat) (v:Value):List Value:=match n with
 | none=>[v]
 | some _=>match v with
   | .agg vs=>vs.toList
   | _=>[]
def pw (n:Option Nat) (v:Value):Prop:=match n with
 | none=>v.oneCell'=true
 | some m=>∃ vs,v= .agg vs∧vs.size=m
def xr (n:Option Nat):List MapEntry→List Value
 | []=>[]
 | e :: es=>e.key :: (sy n e.val++xr n es)
def RK.Holds:RK→World→Value→List Value→Prop
 | .map _ n,w,v,vs=>∃ b es clock,v= .map (some b)∧w.heap[b]? =some (.map es clock)∧(∀ e ∈ es.toList,pw n e.val)∧vs=xr n es.toList
 | .bld T e,w,v,vs=>∃ b s,v= .pointer (some ⟨b,0,none⟩)∧vs=[.string s]∧Lib.IsBuilderF T e 0 b (Lib.byteCells s.data.toList) w
 | .ext i a b,w,v,vs=>(gY i a b).Holds w v vs
def oS:D→List D
 | .lst _ cs=>cs
 | x=>[x]
theorem kX {T e:TypeId} {b:Nat} {bs:List Value} {w:World} (h:Lib.IsBuilderF T e 0 b bs w):∃ p v,(p= .pointer none ∨ p= .pointer (some ⟨b,0,none⟩))∧
  w.heap[b]? =some (.cells #[p,v] T (0,0))∧w.ownsRowF 0 e 1 v bs.length bs∧v.ownBlock ≠ some b∧(RK.bld T e).foot w (.pointer (some ⟨b,0,none⟩))=b :: v.ownBlock.toList:=by
 rcases h with ⟨_,v,h1,h2,h3⟩ | ⟨_,v,h1,h2,h3⟩
 ·exact ⟨_,v,.inl rfl,h1,h2,h3,by simp only [RK.foot,h1,je]; rfl⟩
 ·exact ⟨_,v,.inr rfl,h1,h2,h3,by simp only [RK.foot,h1,je]; rfl⟩
theorem WY {T e:TypeId} {b:Nat} {bs:List Value} {w:World} {p v:Value} (hp:p= .pointer none ∨ p= .pointer (some ⟨b,0,none⟩)) (h1:w.heap[b]? =some (.cells #[p,v] T (0,0)))
  (h2:w.ownsRowF 0 e 1 v bs.length bs) (h3:v.ownBlock ≠ some b):Lib.IsBuilderF T e 0 b bs w:=by
 rcases hp with rfl | rfl
 ·exact .inl ⟨Nat.zero_le _,v,h1,h2,h3⟩
 ·exact .inr ⟨Nat.zero_le _,v,h1,h2,h3⟩
theorem tN {w w':World} {e sz n:Nat} {v:Value} {xs:List Value} (h:w.ownsRowF 0 e sz v n xs) (hb:∀ b,v.ownBlock=some b→w'.heap[b]? =w.heap[b]?):
  w'.ownsRowF 0 e sz v n xs:=by
 refine ⟨h.1,?_⟩
 rcases h.2 with hn | ⟨g,cap,cur,fz,rfl,h1,h2,rest⟩
 ·exact .inl hn
 ·exact .inr ⟨g,cap,cur,fz,rfl,h1,by rw [hb g rfl]; exact h2,rest⟩
theorem vc {w:World} {b:Nat} {x:Obj} (h:w.heap[b]? =some x):b < w.heap.size:=(Array.getElem?_eq_some_iff.1 h).1
theorem RK.Holds.keep {k:RK} {w w':World} {v:Value} {vs:List Value} (h:k.Holds w v vs) (hb:∀ b ∈ k.foot w v,w'.heap[b]? =w.heap[b]?):k.Holds w' v vs∧k.foot w' v=k.foot w v:=by
 cases k with
 | map t n=>
   obtain ⟨b,es,cl,rfl,h1,h2,h3⟩:=h
   exact ⟨⟨b,es,cl,rfl,by rw [hb b (by simp [RK.foot])]; exact h1,h2,h3⟩,rfl⟩
 | bld T e=>
   obtain ⟨b,s,rfl,h1,h2⟩:=h
   obtain ⟨p,u,hp,k1,k2,k3,k4⟩:=kX h2
   rw [k4] at hb
   have e1:w'.heap[b]? =w.heap[b]? :=hb b (by simp)
   have h2':Lib.IsBuilderF T e 0 b (Lib.byteCells s.data.toList) w':=WY hp (by rw [e1]; exact k1) (tN k2 fun g hg=>hb g (by simp [hg])) k3
   exact ⟨⟨b,s,rfl,h1,h2'⟩,by simp only [RK.foot,e1]⟩
 | ext i x y=>exact (gY i x y).keep h hb
theorem RK.Holds.lt {k:RK} {w:World} {v:Value} {vs:List Value} (h:k.Holds w v vs):∀ b ∈ k.foot w v,b < w.heap.size:=by
 cases k with
 | map t n=>
   obtain ⟨b,es,cl,rfl,h1,h2,h3⟩:=h
   intro c hc
   simp only [RK.foot,List.mem_singleton] at hc
   subst hc; exact vc h1
 | bld T e=>
   obtain ⟨b,s,rfl,h1,h2⟩:=h
   obtain ⟨p,u,hp,k1,k2,k3,k4⟩:=kX h2
   rw [k4]
   intro c hc
   rcases List.mem_cons.1 hc with rfl | hc
   ·exact vc k1
   ·exact (k2.lt c (by simpa using hc)).2
 | ext i x y=>exact (gY i x y).lt h
theorem RK.Holds.nodup {k:RK} {w:World} {v:Value} {vs:List Value} (h:k.Holds w v vs):(k.foot w v).Nodup:=by
 cases k with
 | map t n=>
   obtain ⟨b,es,cl,rfl,h1,h2,h3⟩:=h
   simp [RK.foot]
 | bld T e=>
   obtain ⟨b,s,rfl,h1,h2⟩:=h
   obtain ⟨p,u,hp,k1,k2,k3,k4⟩:=kX h2
   rw [k4]
   cases ho:u.ownBlock with
   | none=>simp
   | some g=>
     simp only [Option.toList,List.nodup_cons,List.mem_singleton,List.not_mem_nil,not_false_eq_true,List.nodup_nil,and_true]
     rintro rfl; exact k3 ho
 | ext i x y=>exact (gY i x y).nodup h
theorem RK.Holds.one {k:RK} {w:World} {v:Value} {vs:List Value} (h:k.Holds w v vs):v.oneCell'=true:=by
 cases k with
 | map t n=>obtain ⟨b,es,cl,rfl,_⟩:=h; rfl
 | bld T e=>obtain ⟨b,s,rfl,_⟩:=h; rfl
 | ext i x y=>exact (gY i x y).one h
end Go.Vm
