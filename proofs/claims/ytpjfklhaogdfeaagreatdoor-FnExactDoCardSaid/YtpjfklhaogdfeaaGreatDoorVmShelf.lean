/- Contracts of the library's shelf, as contracts here: functions of plain data that write nothing that was there. -/
import Derived.Test.YtpjfklhaogdfeaaGreatDoorVmLayer
import Derived.Below
set_option linter.unusedVariables false
set_option linter.unusedSectionVars false
namespace Go.Vm
open Go.RowKit
variable [Gl]
theorem cy:∀ {xs:List X} {vs:List Value},(∀ x ∈ xs,∃ y,x= .d y)→yF xs vs=[]
 | [],vs,h=>by cases vs <;> simp only [yF]
 | x :: xs,[],h=>by simp only [yF]
 | x :: xs,v :: vs,h=>by
   obtain ⟨y,rfl⟩:=h x (by simp)
   simp only [yF,sF,List.nil_append]
   exact cy fun x hx=>h x (by simp [hx])
def ZO (S:Nat→Nat) (w:World) (x:X) (e:Ending) (w':World):Prop:=
 (∃ v b1 S',e= .returned v∧RX S' w' x v b1∧b1.Nodup∧(∀ b ∈ b1,w.heap.size ≤ b)∧(∀ b,b < w.heap.size→S' b=S b)∧ParOK [] x v)∧Below w.heap.size w w'
theorem LF {P:Program} {f:FuncId} {α:Type} {enc:α→List X} (hd:∀ a,∀ x ∈ enc a,∃ y,x= .d y) {C:α→Option X} (hrun:∀ args w,(callFunc f args).run P w= .ok (.enter f args) w)
  (h:∀ a x S w args,C a=some x→(∃ bs,RXs S w (enc a) args.toList bs)→(∀ b,b < Gl.G→w.heap[b]? =Gl.g b)→Calls P f args w (ZO S w x)):
  Sound P f (lay enc fun a=>(C a).bind fun x=>some (.ret x [])):=by
 intro S w args xs bs hx hb out ho
 obtain ⟨a,rfl,ho2⟩:=sV ho
 obtain ⟨x,hC,e⟩:=Option.bind_eq_some_iff.mp ho2
 simp only [Option.some.injEq] at e
 subst e
 refine ⟨hrun args w,(h a x S w args hC ⟨bs,hx⟩ (fun b hb'=>(hb.2.2 b hb').1)).mono ?_⟩
 rintro e w' ⟨⟨v,b1,S',h1,h2,h3,h4,h5,h6⟩,hB⟩
 refine ⟨S',hB.os,hB.tape,hB.output,hB.size,fun b hb' _=>⟨hB.block b hb',h5 b hb'⟩,v,b1,[],h1,h2,by simpa using h3,h4,rfl,h6,?_⟩
 rw [cy (hd a)]; exact ⟨rfl,rfl⟩
theorem JU {S:Nat→Nat} {w:World} {l:List UInt8} {e:Ending} {w':World} (he:e= .returned (.string ⟨l.toArray⟩)) (hB:Below w.heap.size w w'):ZO S w (.d (sD l)) e w':=by
 refine ⟨⟨_,[],S,he,⟨rfl,?_⟩,List.nodup_nil,fun b hb=>(by cases hb),fun _ _=>rfl,?_⟩,hB⟩
 ·simp only [sD,RD]
 ·simp only [ParOK]
theorem JM {S:Nat→Nat} {w:World} {k:IntKind} {n:Int} {e:Ending} {w':World} (he:e= .returned (.int k n)) (hB:Below w.heap.size w w'):ZO S w (.d (.int k n)) e w':=by
 refine ⟨⟨_,[],S,he,⟨rfl,?_⟩,List.nodup_nil,fun b hb=>(by cases hb),fun _ _=>rfl,?_⟩,hB⟩
 ·simp only [RD]
 ·simp only [ParOK]
theorem KU {S:Nat→Nat} {w:World} {n:Bool} {e:Ending} {w':World} (he:e= .returned (.bool n)) (hB:Below w.heap.size w w'):ZO S w (.d (.bool n)) e w':=by
 refine ⟨⟨_,[],S,he,⟨rfl,?_⟩,List.nodup_nil,fun b hb=>(by cases hb),fun _ _=>rfl,?_⟩,hB⟩
 ·simp only [RD]
 ·simp only [ParOK]
end Go.Vm
