/- One more function's contract, in plain terms, over those below it. -/
import Derived.Test.YtejgcpankckdkaaVmTower
import Derived.Test.YtejgcpankckdkaaVmKind
set_option linter.unusedVariables false
set_option linter.unusedSectionVars false
set_option linter.unusedSimpArgs false
namespace Go.Vm

open Classical in
/-- a contract, told by the arguments in plain terms -/
noncomputable def lay {α : Type} (enc : α → List X) (C : α → Option XOut) (xs : List X) : Option XOut := if h : ∃ a, enc a = xs then C h.choose else none
theorem lay_eq {α : Type} {enc : α → List X} {C : α → Option XOut} (inj : ∀ a b, enc a = enc b → a = b) (a : α) : lay enc C (enc a) = C a := by
  unfold lay
  have h : ∃ b, enc b = enc a := ⟨a, rfl⟩
  rw [dif_pos h, inj _ _ h.choose_spec]
open Classical in
/-- an answer, where the condition holds -/
noncomputable def under {β : Type} (p : Prop) (x : β) : Option β := if p then some x else none
theorem under_pos {β : Type} {p : Prop} {x : β} (h : p) : under p x = some x := if_pos h
theorem under_some {β : Type} {p : Prop} {x y : β} (h : under p x = some y) : p ∧ x = y := by
  unfold under at h
  split at h
  · injection h with h; exact ⟨‹p›, h⟩
  · cases h

mutual
theorem RX.nc {S : Nat → Nat} {w : World} : ∀ {x : X} {v : Value} {bs : List Nat}, RX S w x v bs → RX S w (ncX x) v bs
  | .own e s n cap cells lk, v, bs, ⟨xs, h1, h2, h3, h4, h5⟩ => by
    simp only [ncX]
    exact ⟨xs, h1, h2, h3, h4, fun k hk => by cases hk⟩
  | .box xs, v, bs, ⟨b, cs, et, bs', h1, h2, h3, h4, h5, h6⟩ => by
    simp only [ncX]
    exact ⟨b, cs, et, bs', h1, h2, RXs.nc h3, h4, h5, by rw [flat_nc]; exact h6⟩
  | .agg xs, v, bs, ⟨vs, h1, h2⟩ => by
    simp only [ncX]
    exact ⟨vs, h1, RXs.nc h2⟩
  | .tup xs, v, bs, ⟨vs, h1, h2⟩ => by
    simp only [ncX]
    exact ⟨vs, h1, RXs.nc h2⟩
  | .d x, v, bs, h => by simp only [ncX]; exact h
  | .nil, v, bs, h => by simp only [ncX]; exact h
theorem RXs.nc {S : Nat → Nat} {w : World} : ∀ {xs : List X} {vs : List Value} {bs : List Nat}, RXs S w xs vs bs → RXs S w (ncXs xs) vs bs
  | [], vs, bs, h => by simp only [ncXs]; exact h
  | x :: xs, vs, bs, ⟨v, r, b1, b2, e1, e2, h1, h2⟩ => by
    simp only [ncXs]
    exact ⟨v, r, b1, b2, e1, e2, RX.nc h1, RXs.nc h2⟩
theorem flat_nc : ∀ {xs : List X}, (ncXs xs).all flatX = xs.all flatX
  | [] => by simp only [ncXs]
  | x :: xs => by
    simp only [ncXs, List.all_cons, flat_nc (xs := xs)]
    cases x <;> simp only [ncX, flatX]
end
theorem Sound.nocap {P : Program} {f : FuncId} {F : List X → Option XOut} (h : Sound P f F) : Sound P f (fun xs => (F xs).bind fun y => some (Vm.nocap y)) := by
  intro S w args xs bs hx hb out ho
  obtain ⟨y, h1, h2⟩ := Option.bind_eq_some_iff.mp ho
  simp only [Option.some.injEq] at h2
  subst h2
  obtain ⟨q1, q2⟩ := h S w args xs bs hx hb y h1
  refine ⟨q1, q2.mono ?_⟩
  rintro e w' ⟨S', a1, a2, a3, a4, a5, a6⟩
  refine ⟨S', a1, a2, a3, a4, a5, ?_⟩
  cases y with
  | ret x outs =>
    obtain ⟨v, b1, r1, r2, r3⟩ := a6
    exact ⟨v, b1, r1, RX.nc r2, r3⟩
  | pan x outs => exact a6

theorem layer {P : Program} {Γ : Ctx} (hm : P.follows .mixedOrders = true) (hΓ : SoundAll P Γ) {f : FuncId} {fn : Func} {cd : Cd} {rs : List RV} {k : Nat} (hf : P.funcs[f]? = some fn)
    (hname : (fn.name == "runtime.NumGoroutine") = false) (hb : fn.body.isSome = true) (hc : comp P fn.ntmps (fn.body.getD .skip) = some cd.strip)
    (hrs : compRVs P fn.results.toList = some rs) (h4 : decide (fn.results.toList.length ≤ 4) = true) (hk : decide (k ≤ fn.ntmps) = true)
    {α : Type} {enc : α → List X} {C : α → Option XOut} (hC : ∀ a out, C a = some out → ∃ n, ((callF Γ n k cd rs (enc a)).bind fun y => some (Vm.nocap y)) = some out) : SoundAll P (Γ.with f (lay enc C)) := by
  refine hΓ.with ?_
  intro S w args xs bs hx hb' out ho
  unfold lay at ho
  split at ho
  · rename_i h
    obtain ⟨n, hn⟩ := hC _ _ ho
    rw [h.choose_spec] at hn
    exact (fn_sound hm hΓ hf hname hb hc hrs (of_decide_eq_true h4) (of_decide_eq_true hk) n).nocap S w args xs bs hx hb' out hn
  · cases ho

theorem lstT_inj {α : Type} (c : Enc α) {l l' : List α} : lstT c l = lstT c l' ↔ l = l' := by
  constructor
  · intro h
    have := congrArg (decL c) h
    rw [decL_T, decL_T] at this
    injection this
  · rintro rfl; rfl
end Go.Vm
