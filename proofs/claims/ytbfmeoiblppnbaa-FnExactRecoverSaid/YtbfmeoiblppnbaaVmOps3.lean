/- Each operation of the model does what the abstract machine says: numbers, texts, places. -/
import Derived.Test.YtbfmeoiblppnbaaVmOps2
set_option linter.unusedVariables false
set_option linter.unusedSectionVars false
set_option linter.unusedSimpArgs false
namespace Go.Vm

theorem ok_some {a : A} {out : Out} (h : ok a = some out) : out = .val a [] := by simp only [ok, Option.some.injEq] at h; exact h.symm

section
variable {P : Program} {o : Oper} {act : Act} {c : C} {role : Nat → Option Nat} {st : St}
variable (hs : ∀ n, R c (st.slot n) (act.tmps.getD n undef)) (hobs : ∀ id, ObOK c role id)
include hs hobs

theorem does_mv {x : Operand} {sa : SA} {out : Out} (ho : o.op = .move x ∨ o.op = .assign x) (hx : compA x = some sa) (he : ok (st.get sa) = some out) : Does P o act c role out := by
  rw [ok_some he]
  refine Does.pure hobs (v := act.eval x) ?_ (compA_R hs hx)
  rcases ho with ho | ho <;> simp [execOp, ho]

theorem args2 {x y : Operand} {l : List SA} (h : compAs [x, y] = some l) : ∃ a b, l = [a, b] ∧ R c (st.get a) (act.eval x) ∧ R c (st.get b) (act.eval y) := by
  simp only [compAs, Option.bind_eq_some_iff, Option.map_eq_some_iff] at h
  obtain ⟨a, ha, l', ⟨b, hb, l'', h'', rfl⟩, rfl⟩ := h
  cases h''
  exact ⟨a, b, rfl, compA_R hs ha, compA_R hs hb⟩
theorem args3 {x y z : Operand} {l : List SA} (h : compAs [x, y, z] = some l) :
    ∃ a b d, l = [a, b, d] ∧ R c (st.get a) (act.eval x) ∧ R c (st.get b) (act.eval y) ∧ R c (st.get d) (act.eval z) := by
  simp only [compAs, Option.bind_eq_some_iff, Option.map_eq_some_iff] at h
  obtain ⟨a, ha, l', ⟨b, hb, l'', ⟨d, hd, l3, h3, rfl⟩, rfl⟩, rfl⟩ := h
  cases h3
  exact ⟨a, b, d, rfl, compA_R hs ha, compA_R hs hb, compA_R hs hd⟩

theorem does_pick {x y z : Operand} {l : List SA} {out : Out} {Γ : Ctx} {d : Nat} (ho : o.op = .pick x y z) (hl : compAs [x, y, z] = some l)
    (he : eval Γ c.ob d .pick (l.map st.get) = some out) : Does P o act c role out := by
  obtain ⟨a, b, e, rfl, h1, h2, h3⟩ := args3 hs hobs hl
  simp only [eval, List.map_cons, List.map_nil] at he
  split at he
  · rename_i t p q heq
    simp only [List.cons.injEq, and_true] at heq
    obtain ⟨e1, e2, e3⟩ := heq
    rw [e1] at h1; rw [e2] at h2; rw [e3] at h3
    rw [ok_some he]
    simp only [R, RD] at h1
    refine Does.pure hobs (v := if t then act.eval y else act.eval z) ?_ ?_
    · simp [execOp, ho, h1, asBool]
    · cases t <;> simpa
  · cases he

omit hs hobs in
theorem bld_ok {q : RK × D} {a : A} {out : Out} (h : (match q.1 with | .bld _ _ => ok a | _ => none) = some out) : ∃ T e, q.1 = .bld T e ∧ out = .val a [] := by
  cases hq : q.1 with
  | map t n => rw [hq] at h; cases h
  | bld T e => rw [hq] at h; exact ⟨T, e, rfl, ok_some h⟩
theorem does_nilck {x : Operand} {sa : SA} {out : Out} {Γ : Ctx} {d : Nat} (ho : o.op = .nilCheck x) (hx : compA x = some sa) (he : eval Γ c.ob d .nilck [st.get sa] = some out) :
    Does P o act c role out := by
  have hr := compA_R hs hx
  generalize st.get sa = a at he hr
  simp only [eval] at he
  split at he
  · rename_i i v off heq
    simp only [List.cons.injEq, and_true] at heq; subst heq
    simp only [Option.bind_eq_some_iff] at he
    obtain ⟨cells, hb, he⟩ := he
    rw [ok_some he]
    obtain ⟨b, cs, et, e1, e2, _⟩ := adr_at hs hobs hr hb
    refine Does.pure hobs (v := act.eval x) ?_ hr
    simp [execOp, ho, e2]
  · rename_i i v heq
    simp only [List.cons.injEq, and_true] at heq; subst heq
    obtain ⟨q, hb, he⟩ := Option.bind_eq_some_iff.1 he
    obtain ⟨T, e', hq, rfl⟩ := bld_ok he
    obtain ⟨e1, vs, e2, _⟩ := res_at hs hobs hr hb
    rw [hq] at e2
    obtain ⟨b, s, e3, _⟩ := e2
    refine Does.pure hobs (v := act.eval x) ?_ hr
    simp [execOp, ho, e1, e3]
  · cases he

theorem intBin_run {op : BinOp} {k : IntKind} {a b : Int} {y : D} (h : intBin op k a b = some y) (t : TypeId) (w : World) : ∃ v, (binOp op t (.int k a) (.int k b)).run P w = .ok v w ∧ RD c.S c.w y v := by
  cases op <;> simp only [intBin, intCmp, Option.map_none, Option.map_some, Option.some.injEq, reduceCtorEq] at h <;> (try subst h) <;> try (exact ⟨_, by simp [binOp, Op.intArith, Op.intCmp], rfl⟩)
  all_goals
    split at h
    · cases h
    · rename_i hb
      simp only [Option.some.injEq] at h; subst h
      exact ⟨_, by simp [binOp, Op.intDiv, hb], rfl⟩

theorem strBin_run {op : BinOp} {a b : ByteArray} {y : D} (h : strBin op a b = some y) (t : TypeId) (w : World) : ∃ v, (binOp op t (.string a) (.string b)).run P w = .ok v w ∧ RD c.S c.w y v := by
  cases op <;> simp only [strBin, Option.some.injEq, reduceCtorEq] at h <;> (try subst h) <;> try (exact ⟨_, by simp [binOp, Op.stringOp], rfl⟩)
  split at h
  · rename_i hb
    simp only [Option.some.injEq] at h; subst h
    refine ⟨.string (a ++ b), ?_, rfl⟩
    have : ¬ (((a.size + b.size : Nat) : Int) > IntKind.i64.max) := by
      have : IntKind.i64.max = 9223372036854775807 := by decide
      omega
    simp only [binOp, Op.stringOp, this, if_false]
    rfl
  · cases h

theorem does_bin {op : BinOp} {t yt : TypeId} {x y : Operand} {l : List SA} {out : Out} (ho : o.op = .binOp op t x y yt) (hl : compAs [x, y] = some l)
    (he : evBin op (l.map st.get) = some out) : Does P o act c role out := by
  obtain ⟨a, b, rfl, h1, h2⟩ := args2 hs hobs hl
  simp only [List.map_cons, List.map_nil] at he
  unfold evBin at he
  split at he <;> rename_i heq
  · simp only [List.cons.injEq, and_true] at heq
    obtain ⟨e1, e2⟩ := heq
    rw [e1] at h1; rw [e2] at h2
    simp only [R, RD] at h1 h2
    split at he
    · rename_i hk; subst hk
      simp only [Option.bind_eq_some_iff] at he
      obtain ⟨z, hz, he⟩ := he
      rw [ok_some he]
      obtain ⟨v, hv, hr⟩ := intBin_run (P := P) hs hobs hz t c.w
      refine Does.pure hobs (v := v) ?_ hr
      have hg : (eqGuard op t x y (act.eval x) (act.eval y)).run P c.w = .ok () c.w := by
        rw [h1, h2]; cases op <;> simp [eqGuard]
      rw [h1, h2] at hg
      simp only [execOp, ho, Sem.run_bind, h1, h2, hg, Result.andThen_ok, hv, Sem.run_pure]
    · cases he
  · simp only [List.cons.injEq, and_true] at heq
    obtain ⟨e1, e2⟩ := heq
    rw [e1] at h1; rw [e2] at h2
    simp only [R, RD] at h1 h2
    simp only [Option.bind_eq_some_iff] at he
    obtain ⟨z, hz, he⟩ := he
    rw [ok_some he]
    obtain ⟨v, hv, hr⟩ := strBin_run (P := P) hs hobs hz t c.w
    refine Does.pure hobs (v := v) ?_ hr
    have hg : (eqGuard op t x y (act.eval x) (act.eval y)).run P c.w = .ok () c.w := by
      rw [h1, h2]; cases op <;> simp [eqGuard]
    rw [h1, h2] at hg
    simp only [execOp, ho, Sem.run_bind, h1, h2, hg, Result.andThen_ok, hv, Sem.run_pure]
  · cases he
end

end Go.Vm
