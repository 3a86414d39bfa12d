/- Each operation of the model does what the abstract machine says: interfaces that are looked into, arrays. -/
import Derived.Test.YtbfmeoiblppnbaaDoorVmOps11
import Derived.WideLaws
set_option linter.unusedVariables false
set_option linter.unusedSectionVars false
set_option linter.unusedSimpArgs false
namespace Go.Vm

section
variable {P : Program} {o : Oper} {act : Act} {c : C} {role : Nat → Option Nat} {st : St}
variable (hs : ∀ n, R c (st.slot n) (act.tmps.getD n undef)) (hobs : ∀ id, ObOK c role id)
include hs hobs

theorem does_inil {op : BinOp} {neg : Bool} {t yt : TypeId} {x : Operand} {ms : Array (String × TypeId)} {sa : SA} {out : Out} {Γ : Ctx} {d : Nat} (ho : o.op = .binOp op t x (.const .nilIface) yt) (ht : P.underlying t = some (.interface ms))
    (hop : (op = .eql ∧ neg = false) ∨ (op = .neq ∧ neg = true)) (hx : compA x = some sa) (he : eval Γ c.ob d (.inil neg) [st.get sa] = some out) : Does P o act c role out := by
  have hr := compA_R hs hx
  generalize st.get sa = a at he hr
  have hm : P.underlying t = some (.interface (P.methodsAt t)) := by simp [Program.methodsAt, ht]
  have hg1 : ∀ op u v, (eqGuard op t x (.const .nilIface) (.iface u v) .nilIface).run P c.w = .ok () c.w := by
    intro op u v; cases op <;> simp [eqGuard]
  have hg2 : ∀ op, (eqGuard op t x (.const .nilIface) .nilIface .nilIface).run P c.w = .ok () c.w := by
    intro op; cases op <;> simp [eqGuard]
  have hheld : ∀ u v, act.eval x = .iface u v → (execOp act.eval o).run P c.w = .ok (.value (.bool neg)) c.w := by
    intro u v h
    have hc : act.eval (.const .nilIface) = .nilIface := rfl
    rcases hop with ⟨rfl, rfl⟩ | ⟨rfl, rfl⟩ <;> simp only [execOp, ho, h, hc, Sem.run_bind, hg1, run_eql_held_nil c.w t u v hm, run_neq_held_nil c.w t u v hm, Result.andThen_ok, Sem.run_pure]
  have hnil : act.eval x = .nilIface → (execOp act.eval o).run P c.w = .ok (.value (.bool !neg)) c.w := by
    intro h
    have hc : act.eval (.const .nilIface) = .nilIface := rfl
    rcases hop with ⟨rfl, rfl⟩ | ⟨rfl, rfl⟩ <;> simp only [execOp, ho, h, hc, Sem.run_bind, hg2, run_eql_nil_nil c.w t hm, run_neq_nil_nil c.w t hm, Result.andThen_ok, Sem.run_pure, Bool.not_false, Bool.not_true]
  simp only [eval] at he
  split at he <;> rename_i heq
  · simp only [List.cons.injEq, and_true] at heq; subst heq
    rw [ok_some he]
    exact Does.pure hobs (hnil hr) rfl
  · simp only [List.cons.injEq, and_true] at heq; subst heq
    rw [ok_some he]
    obtain ⟨u, e, H⟩ := hr
    exact Does.pure hobs (hheld _ _ e) rfl
  · simp only [List.cons.injEq, and_true] at heq; subst heq
    rw [ok_some he]
    obtain ⟨u, e, H⟩ := hr
    exact Does.pure hobs (hheld _ _ e) rfl
  · cases he

theorem does_ta {x : Operand} {xt t : TypeId} {u : TypeDesc} {sa : SA} {out : Out} {Γ : Ctx} {d : Nat} (ho : o.op = .typeAssert x xt t true) (ht : P.underlying t = some u) (hu : ∀ ms, u ≠ .interface ms)
    (hx : compA x = some sa) (he : eval Γ c.ob d (.ta t) [st.get sa] = some out) : Does P o act c role out := by
  have hr := compA_R hs hx
  generalize st.get sa = a at he hr
  have hrun : ∀ v, act.eval x = .iface t v → (execOp act.eval o).run P c.w = .ok (.value (.tuple #[v, .bool true])) c.w := by
    intro v h
    simp only [execOp, ho, h, Instr.typeAssert, run_und ht, Sem.run_bind, Result.andThen_ok]
    cases u <;> first | (exact absurd rfl (hu _)) | simp
  simp only [eval] at he
  split at he <;> rename_i heq
  · simp only [List.cons.injEq, and_true] at heq; subst heq
    split at he
    · rename_i hu'; subst hu'
      rw [ok_some he]
      obtain ⟨v, e, H⟩ := hr
      exact Does.pure hobs (hrun v e) ⟨_, rfl, v, _, rfl, H, _, _, rfl, rfl, rfl⟩
    · cases he
  · simp only [List.cons.injEq, and_true] at heq; subst heq
    split at he
    · rename_i hu'; subst hu'
      rw [ok_some he]
      obtain ⟨vs, e, H⟩ := hr
      exact Does.pure hobs (hrun _ e) ⟨_, rfl, _, _, rfl, ⟨vs, rfl, Rl.map_d H⟩, _, _, rfl, rfl, rfl⟩
    · cases he
  · cases he

theorem does_iaa {t e : TypeId} {n sz : Nat} {x y : Operand} {l : List SA} {out : Out} (ho : o.op = .indexAddr t x y) (ht : P.underlying t = some (.array n e)) (hsz : sizeP P e = some sz)
    (hl : compAs [x, y] = some l) (he : evIaa c.ob n sz (l.map st.get) = some out) : Does P o act c role out := by
  obtain ⟨a, b, rfl, h1, h2⟩ := args2 hs hobs hl
  simp only [List.map_cons, List.map_nil] at he
  have hrun : ∀ (b off : Nat) k (i : Int), act.eval x = .pointer (some ⟨b, off, none⟩) → act.eval y = .int k i → 0 ≤ i → i < n →
      (execOp act.eval o).run P c.w = .ok (.value (.pointer (some ⟨b, off + i.toNat * sz, none⟩))) c.w := by
    intro b off k i hx hy h0 h1
    simp [execOp, ho, hx, hy, Instr.indexAt, Instr.sureAddr, asIntOf, run_und ht, h0, h1, sizeP_run hsz, Addr.add_mk]
  unfold evIaa at he
  split at he <;> rename_i heq
  · rename_i id ver off k i
    simp only [List.cons.injEq, and_true] at heq
    obtain ⟨e1, e2⟩ := heq
    rw [e1] at h1; rw [e2] at h2
    simp only [Option.bind_eq_some_iff] at he
    obtain ⟨cells, hb, he⟩ := he
    split at he
    · rename_i hi
      rw [ok_some he]
      obtain ⟨b, cs, et, e1, e2, _⟩ := adr_at hs hobs h1 hb
      exact Does.pure hobs (hrun b off k i e2 h2 hi.1 hi.2) ⟨rfl, h1.2.1, fun _ _ => ⟨b, e1, rfl⟩⟩
    · cases he
  · rename_i id ver off k i
    simp only [List.cons.injEq, and_true] at heq
    obtain ⟨e1, e2⟩ := heq
    rw [e1] at h1; rw [e2] at h2
    simp only [Option.bind_eq_some_iff] at he
    obtain ⟨⟨ze, zs, zn, zc, cells⟩, hb, he⟩ := he
    split at he
    · rename_i hi
      rw [ok_some he]
      obtain ⟨b, k', xs, e1, e2, _⟩ := rad_at hs hobs h1 hb
      exact Does.pure hobs (hrun b off k i e2 h2 hi.1 hi.2) ⟨rfl, h1.2.1, fun _ _ => ⟨b, _, k', e1, rfl⟩⟩
    · cases he
  · rename_i cells k i
    simp only [List.cons.injEq, and_true] at heq
    obtain ⟨e1, e2⟩ := heq
    rw [e1] at h1; rw [e2] at h2
    split at he
    · rename_i hi
      rw [ok_some he]
      obtain ⟨b, off, e1, H⟩ := h1
      exact Does.pure hobs (hrun b off k i e1 h2 hi.1 hi.2.1) ⟨b, _, rfl, H.drop _⟩
    · cases he
  · cases he

theorem does_ixa {t e : TypeId} {n sz : Nat} {m : Option Nat} {x y : Operand} {l : List SA} {out : Out} {Γ : Ctx} {d : Nat} (ho : o.op = .index t x y) (ht : P.underlying t = some (.array n e)) (hsz : sizeP P e = some sz) (hm : aggP P e = some m)
    (hl : compAs [x, y] = some l) (he : eval Γ c.ob d (.ixa n sz m) (l.map st.get) = some out) : Does P o act c role out := by
  obtain ⟨a, b, rfl, h1, h2⟩ := args2 hs hobs hl
  simp only [List.map_cons, List.map_nil] at he
  cases m with
  | none =>
    simp only [eval] at he
    split at he
    · rename_i cs k i heq
      simp only [List.cons.injEq, and_true] at heq
      obtain ⟨e1, e2⟩ := heq
      rw [e1] at h1; rw [e2] at h2
      split at he
      · rename_i hi
        simp only [Option.bind_eq_some_iff] at he
        obtain ⟨y', hy, he⟩ := he
        rw [ok_some he]
        obtain ⟨vs, e3, H⟩ := h1
        obtain ⟨u, hu, hru⟩ := H.get _ y' hy
        have hu' : vs[i.toNat * sz]? = some u := by simpa using hu
        simp only [R, RD] at h2
        refine Does.pure hobs (v := u) ?_ hru
        simp [execOp, ho, e3, h2, Instr.index, asIntOf, run_und ht, hi.1, hi.2, part, aggP_none hm, sizeP_run hsz, hu']
      · cases he
    · cases he
  | some m =>
    simp only [eval] at he
    split at he
    · rename_i cs k i heq
      simp only [List.cons.injEq, and_true] at heq
      obtain ⟨e1, e2⟩ := heq
      rw [e1] at h1; rw [e2] at h2
      split at he
      · rename_i hi
        rw [ok_some he]
        obtain ⟨vs, e3, H⟩ := h1
        simp only [R, RD] at h2
        refine Does.pure hobs (v := .agg (vs.extract (i.toNat * sz) (i.toNat * sz + m))) ?_ ⟨_, rfl, ?_⟩
        · have hsm : sz = m := by
            have q1 := (aggP_some hm c.w).2
            have q2 := sizeP_run hsz c.w
            rw [q1] at q2; injection q2 with q2; exact q2.symm
          subst hsm
          simp [execOp, ho, e3, h2, Instr.index, asIntOf, run_und ht, hi.1, hi.2.1, part, (aggP_some hm c.w).1, (aggP_some hm c.w).2]
        · have := Rl.take m (Rl.drop (i.toNat * sz) H)
          rw [Array.toList_extract, List.extract_eq_take_drop, Nat.add_sub_cancel_left]
          exact this
      · cases he
    · cases he
end
end Go.Vm
