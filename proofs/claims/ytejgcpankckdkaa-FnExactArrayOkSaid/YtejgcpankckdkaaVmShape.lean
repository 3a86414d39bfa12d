/- A law's arguments in plain terms. -/
import Derived.Test.YtejgcpankckdkaaVmLayer
set_option linter.unusedVariables false
set_option linter.unusedSectionVars false
set_option linter.unusedSimpArgs false
namespace Go.Vm

theorem has_list {α : Type} (c : Enc α) : ∀ (ys : List (List D)), (∀ y ∈ ys, ∃ x, y = c.enc x) → ∃ l : List α, D.lst ys.length ys.flatten = lstT c l ∧ ys.length = l.length
  | [], _ => ⟨[], rfl, rfl⟩
  | y :: ys, h => by
    obtain ⟨l, h1, h2⟩ := has_list c ys fun z hz => h z (by simp [hz])
    obtain ⟨x, rfl⟩ := h y (by simp)
    refine ⟨x :: l, ?_, by simp [h2]⟩
    unfold lstT at h1 ⊢
    injection h1 with h1 h3
    simp only [List.length_cons, List.flatten_cons, h3, h1, cellsT, List.flatMap_cons]
theorem str_sD (s : ByteArray) : D.str s = sD s.data.toList := rfl
end Go.Vm
