/- Plain reckoning for the loops' functions. -/
import Derived.Test.YtafjdofgafppgaaDoorVmKind
import Derived.IntWalk
set_option linter.unusedVariables false
set_option linter.unusedSimpArgs false
namespace Go.Vm

theorem w64_in {n : Int} (h : -9223372036854775808 ≤ n ∧ n ≤ 9223372036854775807) : w64 n = n := by
  exact IntWalk.i64_in _ h
/-- the greatest length that is looked at -/
def big : Nat := 9223372036854775807
theorem big_eq : big = 9223372036854775807 := rfl
theorem at_cons {α : Type} {l r : List α} {j : Nat} {x : α} (h : l.drop j = x :: r) : j < l.length ∧ (j : Int) < l.length ∧ idx l j = some x ∧ l[j]? = some x ∧ l.drop (j + 1) = r ∧ j + (r.length + 1) = l.length := by
  have hl : j < l.length := by
    apply Classical.byContradiction
    intro hn
    rw [List.drop_eq_nil_of_le (by omega)] at h; cases h
  have hx : l[j]? = some x := by rw [← List.head?_drop, h]; rfl
  refine ⟨hl, by omega, ?_, hx, by rw [← List.drop_drop, h]; rfl, ?_⟩
  · unfold idx; rw [if_pos (by omega), Int.toNat_natCast]; exact hx
  · have := congrArg List.length h
    rw [List.length_drop, List.length_cons] at this; omega
theorem at_nil {α : Type} {l : List α} {j : Nat} (h : l.drop j = []) : ¬ (j : Int) < l.length := by
  have := congrArg List.length h
  simp at this; omega
theorem succ_w {j n : Nat} (h : j < n) (hn : n ≤ big) : w64 ((j : Int) + 1) = ((j + 1 : Nat) : Int) := by
  rw [big_eq] at hn
  rw [w64_in (by omega)]; rfl
theorem idx_nat {α : Type} (l : List α) (j : Nat) : idx l (j : Int) = l[j]? := by
  unfold idx; rw [if_pos (by omega), Int.toNat_natCast]
/-- at most so many as a law looks at -/
def few {α : Type} (l : List α) : Prop := l.length ≤ 1048576
theorem few_big {α : Type} {l : List α} (h : few l) : l.length ≤ big := by unfold few at h; rw [big_eq]; omega
theorem fuel {n e : Nat} : (n + 1) + 1 + e = (n + 1 + e) + 1 := by omega
theorem fuel0 {e : Nat} : 0 + 1 + e = e + 1 := by omega
theorem idxB_some {l : List UInt8} {j : Nat} {c : UInt8} (h : idx l (j : Int) = some c) : idxB l (j : Int) = some (c.toNat : Int) := by
  unfold idxB; rw [h]; rfl
end Go.Vm
