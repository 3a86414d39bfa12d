/- Each operation of the model does what the abstract machine says: cuts, lengths, elements. -/
import Derived.Test.YtbfmeoiblppnbaaVmOps5
set_option linter.unusedVariables false
set_option linter.unusedSectionVars false
set_option linter.unusedSimpArgs false
namespace Go.Vm

theorem rdat_of_own {S : Nat → Nat} {w : World} {b : Nat} : ∀ {cells : List D} {xs : List Value} (o : Nat), RDl S w cells xs → (∀ j v, xs[j]? = some v → w.cell? ⟨b, o + j, none⟩ = some v) →
    o + cells.length ≤ S b → RDat S w cells b o
  | [], _, _, _, _, _ => trivial
  | x :: cells, xs, o, ⟨v, r, e, hx, hr⟩, h, hS => by
    subst e
    simp only [List.length_cons] at hS
    refine ⟨by omega, ⟨v, by simpa using h 0 v (by simp), hx⟩, ?_⟩
    refine rdat_of_own (o + 1) hr (fun j u hj => ?_) (by omega)
    have := h (j + 1) u (by simpa using hj)
    rwa [show o + 1 + j = o + (j + 1) from by omega]

theorem own_cap {w : World} {e sz n : Nat} {v : Value} {xs : List Value} (h : w.ownsRow 0 e sz v n xs) : ∃ a k, v = .slice a n k ∧ n ≤ k ∧ k ≤ maxLen ∧ (a = none → n = 0 ∧ k = 0) ∧
    ∀ p, a = some p → p.spot = none ∧ p.off = 0 ∧ v.ownBlock = some p.block := by
  rcases h.2 with ⟨rfl, rfl⟩ | ⟨g, cap, cur, rfl, _, hg, h1, h2, _⟩
  · exact ⟨none, 0, rfl, Nat.le_refl _, by decide, fun _ => ⟨rfl, rfl⟩, by simp⟩
  · exact ⟨_, _, rfl, h1, h2, by simp, by rintro p ⟨rfl⟩; exact ⟨rfl, rfl, rfl⟩⟩

/-- a row as read-only data -/
theorem RD_of_row {S : Nat → Nat} {w : World} {e sz n : Nat} {v : Value} {xs : List Value} {cells : List D} (h : w.ownsRow 0 e sz v n xs) (hc : RDl S w cells xs)
    (hS : ∀ b, v.ownBlock = some b → n * sz ≤ S b) : RD S w (.lst n cells) v := by
  obtain ⟨a, k, rfl, h1, h2, h3, h4⟩ := own_cap h
  have hlen := hc.length
  refine ⟨a, k, rfl, h1, fun ha => ⟨(h3 ha).1, (h3 ha).2, ?_⟩, ?_⟩
  · have := h.1; rw [(h3 ha).1] at this; simp only [Nat.zero_mul] at this
    exact List.eq_nil_of_length_eq_zero (by omega)
  · intro p hp
    obtain ⟨q1, q2, q3⟩ := h4 p hp
    refine ⟨.inl q1, ?_⟩
    rw [q2]
    refine rdat_of_own 0 hc ?_ ?_
    · intro j u hj
      have := h.cells q3 j u hj
      rw [Addr.add_mk] at this
      exact this
    · have := hS p.block q3; have := h.1; omega

section
variable {c : C} {role : Nat → Option Nat} (hobs : ∀ id, ObOK c role id)
include hobs

theorem snap_R {a : A} {v : Value} {x : D} {ids : List Nat} (h : snap c.ob a = some (x, ids)) (hr : R c a v) :
    (∀ id ∈ ids, ∃ e sz n cap cells, (c.ob id).o = .row e sz n cap cells) ∧
    ∀ S', Stab c.S c.w S' c.w → (∀ id ∈ ids, ∀ e sz n cap cells, (c.ob id).o = .row e sz n cap cells → ∀ b, (c.hd id).ownBlock = some b → S' b = n * sz) → RD S' c.w x v := by
  unfold snap at h
  split at h
  · simp only [Option.some.injEq, Prod.mk.injEq] at h
    obtain ⟨rfl, rfl⟩ := h
    exact ⟨by simp, fun S' hS _ => RD.mono hS _ _ hr⟩
  · simp only [Option.some.injEq, Prod.mk.injEq] at h
    obtain ⟨rfl, rfl⟩ := h
    simp only [R] at hr
    subst hr
    exact ⟨by simp, fun S' hS _ => ⟨none, 0, rfl, Nat.le_refl _, fun _ => ⟨rfl, rfl, rfl⟩, by simp⟩⟩
  · rename_i id ver
    split at h
    · rename_i e sz n cap cells ho
      split at h
      · rename_i hv
        simp only [Option.some.injEq, Prod.mk.injEq] at h
        obtain ⟨rfl, rfl⟩ := h
        refine ⟨by simpa using ⟨e, sz, n, cap, cells, ho⟩, ?_⟩
        intro S' hS hb
        have e1 := hr.2.2 hv.symm (by rw [ho]; rfl)
        obtain ⟨xs, h1, h2, h3, h4⟩ := row_ok (hobs id) ho
        rw [e1]
        exact RD_of_row h1 (RDl.mono hS _ _ h2) fun b hb' => Nat.le_of_eq (hb id (by simp) e sz n cap cells ho b hb').symm
      · cases h
    · cases h
  · cases h

theorem snaps_R : ∀ {as : List A} {vs : List Value} {xs : List D} {ids : List Nat}, snaps c.ob as = some (xs, ids) → Rl c as vs →
    (∀ id ∈ ids, ∃ e sz n cap cells, (c.ob id).o = .row e sz n cap cells) ∧
    ∀ S', Stab c.S c.w S' c.w → (∀ id ∈ ids, ∀ e sz n cap cells, (c.ob id).o = .row e sz n cap cells → ∀ b, (c.hd id).ownBlock = some b → S' b = n * sz) → RDl S' c.w xs vs
  | [], vs, xs, ids, h, hr => by
    simp only [snaps, Option.some.injEq, Prod.mk.injEq] at h
    obtain ⟨rfl, rfl⟩ := h
    exact ⟨by simp, fun _ _ _ => hr⟩
  | a :: as, vs, xs, ids, h, ⟨v, r, e, hv, hr⟩ => by
    simp only [snaps, Option.bind_eq_some_iff, Option.map_eq_some_iff] at h
    obtain ⟨⟨x, l⟩, h1, ⟨ys, ls⟩, h2, h3⟩ := h
    simp only [Prod.mk.injEq] at h3
    obtain ⟨rfl, rfl⟩ := h3
    obtain ⟨p1, p2⟩ := snap_R hobs h1 hv
    obtain ⟨q1, q2⟩ := snaps_R h2 hr
    refine ⟨?_, ?_⟩
    · intro id hid
      rcases List.mem_append.1 hid with h | h
      · exact p1 id h
      · exact q1 id h
    · intro S' hS hb
      exact ⟨v, r, e, p2 S' hS fun id hid => hb id (List.mem_append.2 (.inl hid)), q2 S' hS fun id hid => hb id (List.mem_append.2 (.inr hid))⟩
theorem snapN_R {a : A} {x : D} {ids : List Nat} {v : Value} (h : snapN c.ob a = some (x, ids)) (hr : R c a v) :
    (∀ id ∈ ids, ∃ e sz n cap cells, (c.ob id).o = .row e sz n cap cells) ∧
    ∀ S', Stab c.S c.w S' c.w → (∀ id ∈ ids, ∀ e sz n cap cells, (c.ob id).o = .row e sz n cap cells → ∀ b, (c.hd id).ownBlock = some b → S' b = n * sz) → RD S' c.w x v := by
  cases a with
  | nil =>
    simp only [snapN, Option.some.injEq, Prod.mk.injEq] at h
    obtain ⟨rfl, rfl⟩ := h
    exact ⟨by simp, fun _ _ _ => hr⟩
  | _ => simp only [snapN] at h; exact snap_R hobs h hr
theorem snapsN_R : ∀ {as : List A} {vs : List Value} {xs : List D} {ids : List Nat}, snapsN c.ob as = some (xs, ids) → Rl c as vs →
    (∀ id ∈ ids, ∃ e sz n cap cells, (c.ob id).o = .row e sz n cap cells) ∧
    ∀ S', Stab c.S c.w S' c.w → (∀ id ∈ ids, ∀ e sz n cap cells, (c.ob id).o = .row e sz n cap cells → ∀ b, (c.hd id).ownBlock = some b → S' b = n * sz) → RDl S' c.w xs vs
  | [], vs, xs, ids, h, hr => by
    simp only [snapsN, Option.some.injEq, Prod.mk.injEq] at h
    obtain ⟨rfl, rfl⟩ := h
    exact ⟨by simp, fun _ _ _ => hr⟩
  | a :: as, vs, xs, ids, h, ⟨v, r, e, hv, hr⟩ => by
    simp only [snapsN, Option.bind_eq_some_iff, Option.map_eq_some_iff] at h
    obtain ⟨⟨x, l⟩, h1, ⟨ys, ls⟩, h2, h3⟩ := h
    simp only [Prod.mk.injEq] at h3
    obtain ⟨rfl, rfl⟩ := h3
    obtain ⟨p1, p2⟩ := snapN_R hobs h1 hv
    obtain ⟨q1, q2⟩ := snapsN_R h2 hr
    refine ⟨?_, ?_⟩
    · intro id hid
      rcases List.mem_append.1 hid with h | h
      · exact p1 id h
      · exact q1 id h
    · intro S' hS hb
      exact ⟨v, r, e, p2 S' hS fun id hid => hb id (List.mem_append.2 (.inl hid)), q2 S' hS fun id hid => hb id (List.mem_append.2 (.inr hid))⟩
end

section
variable {P : Program} {o : Oper} {act : Act} {c : C} {role : Nat → Option Nat} {st : St}
variable (hs : ∀ n, R c (st.slot n) (act.tmps.getD n undef)) (hobs : ∀ id, ObOK c role id)
include hs hobs

theorem does_len {args : Array Operand} {tys : Array TypeId} {t : TypeId} {str : Bool} {u : TypeDesc} {x : Operand} {sa : SA} {out : Out} (ho : o.op = .call { callee := .builtin .len, args := args, argTypes := tys })
    (ha : args.toList = [x]) (hty : tys.toList = [t]) (ht : P.underlying t = some u) (hu : (u = .string ∧ str = true) ∨ ((∃ e, u = .slice e) ∧ str = false)) (hx : compA x = some sa)
    (he : evLen c.ob str [st.get sa] = some out) : Does P o act c role out := by
  obtain rfl : args = #[x] := by have := congrArg List.toArray ha; simpa using this
  obtain rfl : tys = #[t] := by have := congrArg List.toArray hty; simpa using this
  have hr := compA_R hs hx
  generalize st.get sa = a at he hr
  have h1 : ∀ s : ByteArray, act.eval x = .string s → u = .string → (execOp act.eval o).run P c.w = .ok (.value (.int .i64 s.size)) c.w := by
    rintro s hv rfl
    simp [execOp, ho, resolve, invoke, builtin, hv, Builtin.len_, run_und ht, goInt]
  have h2 : ∀ a n k, act.eval x = .slice a n k → (∃ e, u = .slice e) → (execOp act.eval o).run P c.w = .ok (.value (.int .i64 n)) c.w := by
    rintro a n k hv ⟨e, rfl⟩
    simp [execOp, ho, resolve, invoke, builtin, hv, Builtin.len_, run_und ht, goInt]
  unfold evLen at he
  split at he <;> rename_i heq
  · simp only [List.cons.injEq, and_true] at heq; subst heq
    split at he
    · rename_i hst
      rw [ok_some he]
      exact Does.pure hobs (h1 _ hr (by rcases hu with h | h <;> simp_all)) rfl
    · cases he
  · simp only [List.cons.injEq, and_true] at heq; subst heq
    split at he
    · cases he
    · rename_i hst
      rw [ok_some he]
      obtain ⟨a, k, e, _⟩ := hr
      exact Does.pure hobs (h2 _ _ _ e (by rcases hu with h | h <;> simp_all)) rfl
  · simp only [List.cons.injEq, and_true] at heq; subst heq
    split at he
    · cases he
    · rename_i hst
      rw [ok_some he]
      exact Does.pure hobs (h2 _ _ _ hr (by rcases hu with h | h <;> simp_all)) rfl
  · rename_i id ver
    simp only [List.cons.injEq, and_true] at heq; subst heq
    split at he
    · cases he
    · rename_i hst
      simp only [Option.bind_eq_some_iff] at he
      obtain ⟨⟨ze, zs, zn, zc, cells⟩, hb, he⟩ := he
      rw [ok_some he]
      obtain ⟨e1, xs, h3, _⟩ := row_at hs hobs hr hb
      obtain ⟨a, k, e2, _⟩ := own_cap h3
      exact Does.pure hobs (h2 _ _ _ (e1.trans e2) (by rcases hu with h | h <;> simp_all)) rfl
  · cases he

theorem does_cap {args : Array Operand} {tys : Array TypeId} {t e : TypeId} {x : Operand} {sa : SA} {out : Out} (ho : o.op = .call { callee := .builtin .cap, args := args, argTypes := tys })
    (ha : args.toList = [x]) (hty : tys.toList = [t]) (ht : P.underlying t = some (.slice e)) (hx : compA x = some sa)
    (he : evCap c.ob [st.get sa] = some out) : Does P o act c role out := by
  obtain rfl : args = #[x] := by have := congrArg List.toArray ha; simpa using this
  obtain rfl : tys = #[t] := by have := congrArg List.toArray hty; simpa using this
  have hr := compA_R hs hx
  generalize st.get sa = a at he hr
  unfold evCap at he
  split at he <;> rename_i heq
  · simp only [List.cons.injEq, and_true] at heq; subst heq
    rw [ok_some he]
    simp only [R] at hr
    refine Does.pure hobs (v := .int .i64 0) ?_ rfl
    simp [execOp, ho, resolve, invoke, builtin, hr, Builtin.cap_, run_und ht, goInt]
  · rename_i id ver
    simp only [List.cons.injEq, and_true] at heq; subst heq
    simp only [Option.bind_eq_some_iff] at he
    obtain ⟨⟨ze, zs, zn, zc, cells⟩, hb, k, hk, he⟩ := he
    rw [ok_some he]
    obtain ⟨e1, xs, h3, _, _, h4⟩ := row_at hs hobs hr hb
    obtain ⟨a, e2⟩ := h4 k hk
    refine Does.pure hobs (v := .int .i64 k) ?_ rfl
    simp [execOp, ho, resolve, invoke, builtin, e1, e2, Builtin.cap_, run_und ht, goInt]
  · cases he

theorem does_ia {t e : TypeId} {sz : Nat} {x y : Operand} {l : List SA} {out : Out} (ho : o.op = .indexAddr t x y) (ht : P.underlying t = some (.slice e)) (hsz : sizeP P e = some sz)
    (hl : compAs [x, y] = some l) (he : evIa c.ob sz (l.map st.get) = some out) : Does P o act c role out := by
  obtain ⟨a, b, rfl, h1, h2⟩ := args2 hs hobs hl
  simp only [List.map_cons, List.map_nil] at he
  have hrun : ∀ (b off n cap : Nat) k (i : Int), act.eval x = .slice (some ⟨b, off, none⟩) n cap → act.eval y = .int k i → 0 ≤ i → i < n →
      (execOp act.eval o).run P c.w = .ok (.value (.pointer (some ⟨b, off + i.toNat * sz, none⟩))) c.w := by
    intro b off n cap k i hx hy h0 h1
    simp [execOp, ho, hx, hy, Instr.indexAt, asIntOf, run_und ht, h0, h1, sizeP_run hsz, Addr.add_mk]
  unfold evIa at he
  split at he <;> rename_i heq
  · rename_i n cells k i
    simp only [List.cons.injEq, and_true] at heq
    obtain ⟨e1, e2⟩ := heq
    rw [e1] at h1; rw [e2] at h2
    split at he
    · rename_i hi
      rw [ok_some he]
      obtain ⟨a, cap, e3, e4, e5, e6⟩ := h1
      cases a with
      | none => have := e5 rfl; omega
      | some p =>
        obtain ⟨q1, q2⟩ := e6 p rfl
        replace q1 := q1.resolve_right (by rintro ⟨z, _⟩; omega)
        obtain ⟨pb, po, ps⟩ := p
        simp only at q1 q2
        subst q1
        exact Does.pure hobs (hrun pb po n cap k i e3 h2 hi.1 hi.2.1) ⟨pb, _, rfl, q2.drop _⟩
    · cases he
  · rename_i id ver k i
    simp only [List.cons.injEq, and_true] at heq
    obtain ⟨e1, e2⟩ := heq
    rw [e1] at h1; rw [e2] at h2
    simp only [Option.bind_eq_some_iff] at he
    obtain ⟨⟨ze, zs, zn, zc, cells⟩, hb, he⟩ := he
    simp only at he
    split at he
    · rename_i hi
      rw [ok_some he]
      obtain ⟨e3, xs, h3, _⟩ := row_at hs hobs h1 hb
      obtain ⟨a, cap, e4, _, _, e5, e6⟩ := own_cap h3
      cases a with
      | none => have := e5 rfl; omega
      | some p =>
        obtain ⟨q1, q2, q3⟩ := e6 p rfl
        obtain ⟨pb, po, ps⟩ := p
        simp only at q1 q2
        subst q1; subst q2
        have := hrun pb 0 zn cap k i (e3.trans e4) h2 hi.1 hi.2
        rw [Nat.zero_add] at this
        exact Does.pure hobs this ⟨rfl, h1.2.1, fun _ _ => ⟨pb, zn, cap, e4, rfl⟩⟩
    · cases he
  · cases he

theorem does_pan {x : Operand} {sa : SA} {out : Out} {Γ : Ctx} {d : Nat} (ho : o.op = .panic x) (hx : compA x = some sa) (he : eval Γ c.ob d .pan [st.get sa] = some out) : Does P o act c role out := by
  have hr := compA_R hs hx
  generalize st.get sa = a at he hr
  simp only [eval] at he
  split at he <;> rename_i heq
  · simp only [List.cons.injEq, and_true] at heq; subst heq
    simp only [Option.some.injEq] at he; subst he
    obtain ⟨u, e, H⟩ := hr
    exact ⟨_, by simp [execOp, ho, e, Instr.panic], rfl, u, rfl, H⟩
  · simp only [List.cons.injEq, and_true] at heq; subst heq
    simp only [Option.some.injEq] at he; subst he
    obtain ⟨u, e, H⟩ := hr
    exact ⟨_, by simp [execOp, ho, e, Instr.panic], rfl, u, rfl, H⟩
  · cases he
theorem does_mkI {t : TypeId} {u : TypeDesc} {x : Operand} {sa : SA} {out : Out} {Γ : Ctx} {d : Nat} (ho : o.op = .makeInterface t x) (ht : P.underlying t = some u) (hu : ∀ ms, u ≠ .interface ms)
    (hx : compA x = some sa) (he : eval Γ c.ob d (.mkI t) [st.get sa] = some out) : Does P o act c role out := by
  have hr := compA_R hs hx
  generalize st.get sa = a at he hr
  have hrun : (execOp act.eval o).run P c.w = .ok (.value (.iface t (act.eval x))) c.w := by
    simp only [execOp, ho, Instr.makeInterface, Sem.run_bind, run_und ht, Result.andThen_ok]
    cases u <;> simp_all
  simp only [eval] at he
  split at he <;> rename_i heq
  · simp only [List.cons.injEq, and_true] at heq; subst heq
    rw [ok_some he]
    exact Does.pure hobs hrun ⟨_, rfl, hr⟩
  · simp only [List.cons.injEq, and_true] at heq; subst heq
    obtain ⟨⟨xs, ls⟩, hxs, he⟩ := Option.bind_eq_some_iff.1 he
    cases he
    obtain ⟨vs, e, H⟩ := hr
    obtain ⟨p1, p2⟩ := snaps_R hobs hxs H
    obtain ⟨S', x1, x2⟩ := ext_leaks ls hobs p1
    refine ⟨_, _, S', c.w, c.hd, role, hrun, .inl rfl, x1, ?_⟩
    exact ⟨vs, by rw [e], p2 S' x1.le.stab x2⟩
  · cases he

end
end Go.Vm
