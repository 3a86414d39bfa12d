/- A law's arguments in plain terms. -/
import Derived.Test.YtpjfklhaogdfeaaGreatDoorVmLayer
set_option linter.unusedVariables false
set_option linter.unusedSectionVars false
set_option linter.unusedSimpArgs false
namespace Go.Vm
theorem bK {α:Type} (c:Enc α) (Q:α→Prop):∀ (ys:List (List D)),(∀ y ∈ ys,∃ x,y=c.enc x∧Q x)→∃ l:List α,D.lst ys.length ys.flatten=zh c l∧ys.length=l.length∧∀ x ∈ l,Q x
 | [],_=>⟨[],rfl,rfl,by simp⟩
 | y :: ys,h=>by
   obtain ⟨l,h1,h2,h3⟩:=bK c Q ys fun z hz=>h z (by simp [hz])
   obtain ⟨x,rfl,hx⟩:=h y (by simp)
   refine ⟨x :: l,?_,by simp [h2],?_⟩
   ·unfold zh at h1 ⊢
    injection h1 with h1 h4
    simp only [List.length_cons,List.flatten_cons,h4,h1,zb,List.flatMap_cons]
   ·intro z hz
    rcases List.mem_cons.1 hz with rfl | hz
    ·exact hx
    ·exact h3 z hz
theorem Is (s:ByteArray):D.str s=sD s.data.toList:=rfl
end Go.Vm
