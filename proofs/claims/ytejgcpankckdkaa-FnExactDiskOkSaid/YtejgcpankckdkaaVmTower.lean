/- A tower of contracts: each function by its own run, over those below it. -/
import Derived.Test.YtejgcpankckdkaaVmLaw
set_option linter.unusedVariables false
set_option linter.unusedSectionVars false
set_option linter.unusedSimpArgs false
namespace Go.Vm

theorem iter_mono {f g : St → Option (Ex × St)} (h : ∀ st r, f st = some r → g st = some r) : ∀ {n m : Nat} {st : St} {r : Ex × St}, n ≤ m → iter f n st = some r → iter g m st = some r
  | 0, _, _, _, _, hr => by cases hr
  | n + 1, 0, _, _, hm, _ => by omega
  | n + 1, m + 1, st, r, hm, hr => by
    simp only [iter] at hr ⊢
    obtain ⟨⟨e, s⟩, h1, hr⟩ := bind_some hr
    rw [h _ _ h1]
    simp only [Option.bind_some]
    cases e with
    | normal => exact iter_mono h (by omega) hr
    | _ => exact hr

theorem run_mono {Γ : Ctx} {ps : List Nat} {n m : Nat} (hnm : n ≤ m) : ∀ (c : Cd) {st : St} {r : Ex × St}, run Γ ps n c st = some r → run Γ ps m c st = some r
  | .skip, _, _, h => h
  | .region none _ _, _, _, h => h
  | .region (some _) _ _, _, _, h => h
  | .seq a b, st, r, h => by
    simp only [run] at h ⊢
    obtain ⟨⟨e, s⟩, h1, h⟩ := bind_some h
    rw [run_mono hnm a h1]
    simp only [Option.bind_some]
    cases e with
    | normal => exact run_mono hnm b h
    | _ => exact h
  | .cond c t e, st, r, h => by
    simp only [run] at h ⊢
    split at h
    · rename_i b _
      cases b
      · exact run_mono hnm e h
      · exact run_mono hnm t h
    · cases h
  | .block id b, st, r, h => by
    simp only [run] at h ⊢
    obtain ⟨⟨e, s⟩, h1, h⟩ := map_some h
    rw [run_mono hnm b h1]
    simp only [Option.map_some]
    exact congrArg some h
  | .loop keep b, st, r, h => by
    simp only [run] at h ⊢
    refine iter_mono ?_ hnm h
    intro st r h
    obtain ⟨s, h1, h⟩ := bind_some h
    rw [h1]
    exact run_mono hnm b h
  | .exit _, _, _, h => h
  | .ret, _, _, h => h

theorem callF_mono {Γ : Ctx} {n m k : Nat} (hnm : n ≤ m) {c : Cd} {rs : List RV} {xs : List X} {out : XOut} (h : callF Γ n k c rs xs = some out) : callF Γ m k c rs xs = some out := by
  unfold callF at h ⊢
  split at h
  · rename_i hc
    rw [if_pos hc]
    obtain ⟨r, h1, h⟩ := bind_some h
    rw [run_mono hnm c h1]
    exact h
  · cases h

open Classical in
/-- what a call comes to, with as many rounds as it wants -/
noncomputable def limF (Γ : Ctx) (k : Nat) (c : Cd) (rs : List RV) (xs : List X) : Option XOut :=
  if h : ∃ n out, callF Γ n k c rs xs = some out then some h.choose_spec.choose else none

theorem lim_eq {Γ : Ctx} {n k : Nat} {c : Cd} {rs : List RV} {xs : List X} {out : XOut} (h : callF Γ n k c rs xs = some out) : limF Γ k c rs xs = some out := by
  unfold limF
  have hex : ∃ n out, callF Γ n k c rs xs = some out := ⟨n, out, h⟩
  rw [dif_pos hex]
  have h2 := hex.choose_spec.choose_spec
  have a := callF_mono (Nat.le_max_left n hex.choose) h
  have b := callF_mono (Nat.le_max_right n hex.choose) h2
  rw [a] at b
  exact b.symm

theorem lim_sound {P : Program} {f : FuncId} {Γ : Ctx} {k : Nat} {c : Cd} {rs : List RV} (h : ∀ n, Sound P f (callF Γ n k c rs)) : Sound P f (limF Γ k c rs) := by
  refine Sound.of h ?_
  intro xs out ho
  unfold limF at ho
  split at ho
  · rename_i hex
    refine ⟨hex.choose, ?_⟩
    rw [← ho]
    exact hex.choose_spec.choose_spec
  · cases ho

theorem with_eq {Γ : Ctx} {f : FuncId} {C : List X → Option XOut} (xs : List X) : Γ.with f C f xs = C xs := by
  unfold Ctx.with; rw [if_pos rfl]
theorem with_ne {Γ : Ctx} {f g : FuncId} {C : List X → Option XOut} (h : (g == f) = false) (xs : List X) : Γ.with f C g xs = Γ g xs := by
  unfold Ctx.with; rw [if_neg (by simpa using h)]

/-- a function of the program, over those below it -/
theorem tower {P : Program} {Γ : Ctx} (hm : P.follows .mixedOrders = true) (hΓ : SoundAll P Γ) {f : FuncId} {fn : Func} {cd : Cd} {rs : List RV} {k : Nat} (hf : P.funcs[f]? = some fn)
    (hname : (fn.name == "runtime.NumGoroutine") = false) (hb : fn.body.isSome = true) (hc : comp P fn.ntmps (fn.body.getD .skip) = some cd.strip)
    (hrs : compRVs P fn.results.toList = some rs) (h4 : decide (fn.results.toList.length ≤ 4) = true) (hk : decide (k ≤ fn.ntmps) = true) : SoundAll P (Γ.with f (limF Γ k cd rs)) :=
  hΓ.with (lim_sound fun n => fn_sound hm hΓ hf hname hb hc hrs (of_decide_eq_true h4) (of_decide_eq_true hk) n)

/-- a call, where the contract tells what it comes to -/
theorem call_ret {Γ : Ctx} {ob : Nat → Ob} {d : Nat} {f : FuncId} {as : List A} {xs : List X} {ls : List Nat} {x : X} (h : toXs ob as = some (xs, ls, [])) (hΓ : Γ f xs = some (.ret x [])) :
    eval Γ ob d (.call f) as = some (.val (ofX ob d x 0).1 (leaks ob ls ++ (ofX ob d x 0).2.1)) := by
  simp only [eval, doCall, h, Option.bind_some, distinct, List.any_nil, Bool.not_false, Bool.and_self, if_true, hΓ, backs, Option.map_some, List.nil_append]
theorem call_pan {Γ : Ctx} {ob : Nat → Ob} {d : Nat} {f : FuncId} {as : List A} {xs : List X} {ls : List Nat} {x : D} (h : toXs ob as = some (xs, ls, [])) (hΓ : Γ f xs = some (.pan x [])) :
    eval Γ ob d (.call f) as = some (.pan x (leaks ob ls)) := by
  simp only [eval, doCall, h, Option.bind_some, distinct, List.any_nil, Bool.not_false, Bool.and_self, if_true, hΓ, backs, Option.map_some, List.append_nil]
end Go.Vm
