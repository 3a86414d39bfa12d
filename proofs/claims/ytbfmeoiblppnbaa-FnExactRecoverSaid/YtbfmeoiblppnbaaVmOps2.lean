/- Each operation of the model does what the abstract machine says: those that leave the memory alone. -/
import Derived.Test.YtbfmeoiblppnbaaVmOps
set_option linter.unusedVariables false
set_option linter.unusedSectionVars false
set_option linter.unusedSimpArgs false
namespace Go.Vm

section
variable {P : Program} {o : Oper} {act : Act} {c : C} {role : Nat → Option Nat} {st : St}

theorem run_und {t : TypeId} {d : TypeDesc} (h : P.underlying t = some d) (w : World) : (underlying t).run P w = .ok d w := run_underlying h w
theorem sizeP_run {t : TypeId} {n : Nat} (h : sizeP P t = some n) (w : World) : (sizeOf t).run P w = .ok n w := by
  simp only [sizeP, Option.map_eq_some_iff] at h
  obtain ⟨i, hi, rfl⟩ := h
  simp [sizeOf, typeInfo, hi]
theorem aggP_some {t : TypeId} {n : Nat} (h : aggP P t = some (some n)) (w : World) : (isAgg t).run P w = .ok true w ∧ (sizeOf t).run P w = .ok n w := by
  simp only [aggP, Option.bind_eq_some_iff] at h
  obtain ⟨d, hd, h⟩ := h
  split at h
  · simp only [Option.map_eq_some_iff, Option.some.injEq, exists_eq_right] at h
    exact ⟨by simp [isAgg, run_und hd], sizeP_run h w⟩
  · simp only [Option.map_eq_some_iff, Option.some.injEq, exists_eq_right] at h
    exact ⟨by simp [isAgg, run_und hd], sizeP_run h w⟩
  · simp at h
theorem aggP_none {t : TypeId} (h : aggP P t = some none) (w : World) : (isAgg t).run P w = .ok false w := by
  simp only [aggP, Option.bind_eq_some_iff] at h
  obtain ⟨d, hd, h⟩ := h
  split at h
  · simp at h
  · simp at h
  · rename_i h1 h2
    simp only [isAgg, Sem.run_bind, run_und hd, Result.andThen_ok]
    cases d <;> simp_all

theorem Addr.add_mk (b o n : Nat) : (⟨b, o, none⟩ : Addr).add n = ⟨b, o + n, none⟩ := by
  unfold Addr.add; split <;> simp_all

/-- the run of a load of one cell -/
theorem run_loadVar_one {t : TypeId} (h : aggP P t = some none) (w : World) (a : Addr) (v : Value) (hv : w.cell? a = some v) : (loadVar t a).run P w = .ok v w := by
  simp [loadVar, aggP_none h, hv]
theorem run_loadVar_agg {t : TypeId} {n : Nat} (h : aggP P t = some (some n)) (w : World) (b o : Nat) (vs : List Value) (hl : vs.length = n)
    (hv : ∀ j v, vs[j]? = some v → w.cell? ⟨b, o + j, none⟩ = some v) : (loadVar t ⟨b, o, none⟩).run P w = .ok (.agg vs.toArray) w := by
  subst hl
  have hc := run_loadCells_list (P := P) w ⟨b, o, none⟩ vs (fun j v hj => by rw [Addr.add_mk]; exact hv j v hj)
  simp [loadVar, (aggP_some h w).1, (aggP_some h w).2, hc]

theorem boxAt_some {ob : Nat → Ob} {id ver : Nat} {cells : List A} (h : boxAt ob id ver = some cells) : (ob id).o = .box cells ∧ (ob id).ver = ver := by
  unfold boxAt at h
  split at h
  · rename_i cs hcs
    split at h
    · rename_i hv
      simp only [Option.some.injEq] at h; subst h; exact ⟨hcs, hv⟩
    · cases h
  · cases h
theorem rowAt_some {ob : Nat → Ob} {id ver : Nat} {x : Nat × Nat × Nat × Option Nat × List D} (h : rowAt ob id ver = some x) :
    (ob id).o = .row x.1 x.2.1 x.2.2.1 x.2.2.2.1 x.2.2.2.2 ∧ (ob id).ver = ver := by
  unfold rowAt at h
  split at h
  · rename_i hcs
    split at h
    · rename_i hv
      simp only [Option.some.injEq] at h; subst h; exact ⟨hcs, hv⟩
    · cases h
  · cases h

theorem box_ok {id : Nat} {cells : List A} (h : ObOK c role id) (hb : (c.ob id).o = .box cells) : ∃ b cs et, c.hd id = .pointer (some ⟨b, 0, none⟩) ∧
    c.w.heap[b]? = some (.cells cs et (0, 0)) ∧ Rl c cells cs.toList ∧ cells.all one = true ∧ c.S b = 0 ∧ role b = some id := by
  unfold ObOK at h; rw [hb] at h; exact h
theorem row_ok {id e size n : Nat} {cap : Option Nat} {cells : List D} (h : ObOK c role id) (hb : (c.ob id).o = .row e size n cap cells) :
    ∃ xs, c.w.ownsRow 0 e size (c.hd id) n xs ∧ RDl c.S c.w cells xs ∧
      (∀ b, (c.hd id).ownBlock = some b → role b = some id ∧ c.S b = if (c.ob id).leak then n * size else 0) ∧ (∀ k, cap = some k → ∃ a, c.hd id = .slice a n k) := by
  unfold ObOK at h; rw [hb] at h; exact h

theorem res_ok {id : Nat} {k : RK} {x : D} (h : ObOK c role id) (hb : (c.ob id).o = .res k x) :
    ∃ vs, k.Holds c.w (c.hd id) vs ∧ RDl c.S c.w (resD x) vs ∧ ∀ b ∈ k.foot c.w (c.hd id), role b = some id ∧ c.S b = 0 := by
  unfold ObOK at h; rw [hb] at h; exact h
theorem resAt_some {ob : Nat → Ob} {id ver : Nat} {q : RK × D} (h : resAt ob id ver = some q) : (ob id).o = .res q.1 q.2 ∧ (ob id).ver = ver := by
  unfold resAt at h
  split at h
  · rename_i k x ho
    split at h
    · rename_i hv
      simp only [Option.some.injEq] at h; subst h; exact ⟨ho, hv⟩
    · cases h
  · cases h

theorem cell_block {w : World} {b : Nat} {cs : Array Value} {et : TypeId} {fr : Nat × Nat} (h : w.heap[b]? = some (.cells cs et fr)) (o : Nat) : w.cell? ⟨b, o, none⟩ = cs[o]? := by
  simp [World.cell?, h]

variable (hs : ∀ n, R c (st.slot n) (act.tmps.getD n undef)) (hobs : ∀ id, ObOK c role id)
include hs hobs

/-- a slot's value that names a live box: the address is that of the box -/
theorem adr_at {id ver off : Nat} {cells : List A} {v : Value} (h : R c (.adr id ver off) v) (hb : boxAt c.ob id ver = some cells) :
    ∃ b cs et, c.hd id = .pointer (some ⟨b, 0, none⟩) ∧ v = .pointer (some ⟨b, off, none⟩) ∧ c.w.heap[b]? = some (.cells cs et (0, 0)) ∧ Rl c cells cs.toList ∧
      cells.all one = true ∧ c.S b = 0 ∧ role b = some id := by
  obtain ⟨h1, h2⟩ := boxAt_some hb
  obtain ⟨b, cs, et, e1, e2, e3, e4, e5, e6⟩ := box_ok (hobs id) h1
  obtain ⟨b', e7, e8⟩ := h.2.2 h2.symm (by rw [h1]; rfl)
  rw [e1] at e7
  obtain rfl : b = b' := by injection e7 with e7; injection e7 with e7; injection e7
  exact ⟨b, cs, et, e1, e8, e2, e3, e4, e5, e6⟩
theorem row_at {id ver e sz n : Nat} {cap : Option Nat} {cells : List D} {v : Value} (h : R c (.row id ver) v) (hb : rowAt c.ob id ver = some (e, sz, n, cap, cells)) :
    v = c.hd id ∧ ∃ xs, c.w.ownsRow 0 e sz (c.hd id) n xs ∧ RDl c.S c.w cells xs ∧
      (∀ b, (c.hd id).ownBlock = some b → role b = some id ∧ c.S b = if (c.ob id).leak then n * sz else 0) ∧ (∀ k, cap = some k → ∃ a, c.hd id = .slice a n k) := by
  obtain ⟨h1, h2⟩ := rowAt_some hb
  exact ⟨h.2.2 h2.symm (by rw [h1]; rfl), row_ok (hobs id) h1⟩
theorem res_at {id ver : Nat} {q : RK × D} {v : Value} (h : R c (.row id ver) v) (hb : resAt c.ob id ver = some q) :
    v = c.hd id ∧ ∃ vs, q.1.Holds c.w (c.hd id) vs ∧ RDl c.S c.w (resD q.2) vs ∧ ∀ b ∈ q.1.foot c.w (c.hd id), role b = some id ∧ c.S b = 0 := by
  obtain ⟨h1, h2⟩ := resAt_some hb
  exact ⟨h.2.2 h2.symm (by rw [h1]; rfl), res_ok (hobs id) h1⟩
theorem rad_at {id ver off e sz n : Nat} {cap : Option Nat} {cells : List D} {v : Value} (h : R c (.rad id ver off) v) (hb : rowAt c.ob id ver = some (e, sz, n, cap, cells)) :
    ∃ b k xs, c.hd id = .slice (some ⟨b, 0, none⟩) n k ∧ v = .pointer (some ⟨b, off, none⟩) ∧ c.w.ownsRow 0 e sz (c.hd id) n xs ∧ RDl c.S c.w cells xs ∧
      role b = some id ∧ c.S b = (if (c.ob id).leak then n * sz else 0) := by
  obtain ⟨h1, h2⟩ := rowAt_some hb
  obtain ⟨b, n', k, e1, e2⟩ := h.2.2 h2.symm (by rw [h1]; rfl)
  obtain ⟨xs, o1, o2, o3, o4⟩ := row_ok (hobs id) h1
  have hn : n' = n := by
    rcases o1.2 with ⟨e, _⟩ | ⟨g, cap, cur, e, _⟩
    · rw [e1] at e; simp at e
    · rw [e1] at e; injection e
  subst hn
  obtain ⟨r1, r2⟩ := o3 b (by rw [e1]; rfl)
  exact ⟨b, k, xs, e1, e2, o1, o2, r1, r2⟩

/-- loads -/
theorem does_ld1 {t : TypeId} {x : Operand} {sa : SA} {out : Out} (ho : o.op = .load t x) (hx : compA x = some sa) (ha : aggP P t = some none)
    (he : evLd1 c.ob [st.get sa] = some out) : Does P o act c role out := by
  have hr := compA_R hs hx
  generalize st.get sa = a at he hr
  have key : ∀ (v u : Value) (y : A), act.eval x = v → (∃ p, v = .pointer (some p) ∧ c.w.cell? p = some u) → R c y u → out = .val y [] → Does P o act c role out := by
    intro v u y hv hp hy e
    subst e
    obtain ⟨p, rfl, hp⟩ := hp
    refine Does.pure hobs (v := u) ?_ hy
    simp [execOp, ho, hv, Instr.loadAt, Instr.sureAddr, run_loadVar_one ha _ _ _ hp]
  unfold evLd1 at he
  split at he <;> rename_i heq
  · rename_i id ver off
    simp only [List.cons.injEq, and_true] at heq; subst heq
    simp only [Option.bind_eq_some_iff] at he
    obtain ⟨cells, hb, y, hy, he⟩ := he
    simp only [ok, Option.some.injEq] at he
    obtain ⟨b, cs, et, _, e2, e3, e4, _⟩ := adr_at hs hobs hr hb
    obtain ⟨u, hu, hru⟩ := e4.get off y hy
    refine key _ u y e2 ⟨_, rfl, ?_⟩ hru he.symm
    rw [cell_block e3]; simpa using hu
  · rename_i id ver off
    simp only [List.cons.injEq, and_true] at heq; subst heq
    simp only [Option.bind_eq_some_iff] at he
    obtain ⟨⟨ze, zs, zn, zc, cells⟩, hb, y, hy, he⟩ := he
    simp only at hy
    simp only [ok, Option.some.injEq] at he
    obtain ⟨b, k, xs, e1, e2, e3, e4, _⟩ := rad_at hs hobs hr hb
    obtain ⟨u, hu, hru⟩ := e4.get off y hy
    refine key _ u (.d y) e2 ⟨_, rfl, ?_⟩ hru he.symm
    rw [e1] at e3
    rw [e3.cellAt off ?_]
    · exact hu
    · have := e3.1; have h' := (List.getElem?_eq_some_iff.1 hu).1; omega
  · rename_i y r
    simp only [List.cons.injEq, and_true] at heq; subst heq
    simp only [ok, Option.some.injEq] at he
    obtain ⟨b, off, e1, h1, ⟨u, hu, hru⟩, _⟩ := hr
    exact key _ u (.d y) e1 ⟨_, rfl, hu⟩ hru he.symm
  · cases he

theorem does_ldN {t : TypeId} {n : Nat} {x : Operand} {sa : SA} {out : Out} (ho : o.op = .load t x) (hx : compA x = some sa) (ha : aggP P t = some (some n))
    (he : evLdN c.ob n [st.get sa] = some out) : Does P o act c role out := by
  have hr := compA_R hs hx
  generalize st.get sa = a at he hr
  have key : ∀ (b off : Nat) (vs : List Value) (ys : List A), act.eval x = .pointer (some ⟨b, off, none⟩) → vs.length = n →
      (∀ j v, vs[j]? = some v → c.w.cell? ⟨b, off + j, none⟩ = some v) → Rl c ys vs → out = .val (.agg ys) [] → Does P o act c role out := by
    intro b off vs ys hv hl hp hy e
    subst e
    refine Does.pure hobs (v := .agg vs.toArray) ?_ ⟨_, rfl, by simpa using hy⟩
    simp [execOp, ho, hv, Instr.loadAt, Instr.sureAddr, run_loadVar_agg ha _ _ _ vs hl hp]
  unfold evLdN at he
  split at he <;> rename_i heq
  · rename_i id ver off
    simp only [List.cons.injEq, and_true] at heq; subst heq
    simp only [Option.bind_eq_some_iff] at he
    obtain ⟨cells, hb, he⟩ := he
    split at he
    · rename_i hlen
      simp only [ok, Option.some.injEq] at he
      obtain ⟨b, cs, et, _, e2, e3, e4, _⟩ := adr_at hs hobs hr hb
      have hlc := e4.length
      refine key b off ((cs.toList.drop off).take n) _ e2 ?_ ?_ (Rl.take n (Rl.drop off e4)) he.symm
      · simp at hlc ⊢; omega
      · intro j v hj
        rw [cell_block e3]
        rw [List.getElem?_take] at hj
        split at hj
        · simpa [List.getElem?_drop] using hj
        · cases hj
    · cases he
  · rename_i id ver off
    simp only [List.cons.injEq, and_true] at heq; subst heq
    simp only [Option.bind_eq_some_iff] at he
    obtain ⟨⟨ze, zs, zn, zc, cells⟩, hb, he⟩ := he
    simp only at he
    split at he
    · rename_i hlen
      simp only [ok, Option.some.injEq] at he
      obtain ⟨b, k, xs, e1, e2, e3, e4, _⟩ := rad_at hs hobs hr hb
      have hlc := e4.length
      refine key b off ((xs.drop off).take n) _ e2 ?_ ?_ (Rl.map_d (RDl.take n (RDl.drop off e4))) he.symm
      · simp; omega
      · intro j v hj
        rw [List.getElem?_take] at hj
        split at hj
        · rw [List.getElem?_drop] at hj
          rw [e1] at e3
          have h' : off + j < xs.length := (List.getElem?_eq_some_iff.1 hj).1
          rw [e3.1] at h'
          rw [e3.cellAt (off + j) h']
          exact hj
        · cases hj
    · cases he
  · rename_i cells
    simp only [List.cons.injEq, and_true] at heq; subst heq
    split at he
    · rename_i hlen
      simp only [ok, Option.some.injEq] at he
      obtain ⟨b, off, e1, H⟩ := hr
      have : ∀ (xs : List D) (o' : Nat), RDat c.S c.w xs b o' → ∃ vs : List Value, vs.length = xs.length ∧ (∀ j v, vs[j]? = some v → c.w.cell? ⟨b, o' + j, none⟩ = some v) ∧ RDl c.S c.w xs vs := by
        intro xs
        induction xs with
        | nil => exact fun _ _ => ⟨[], rfl, by simp, rfl⟩
        | cons x xs ih =>
          rintro o' ⟨_, ⟨v, hv, hx⟩, hr⟩
          obtain ⟨vs, h1, h2, h3⟩ := ih (o' + 1) hr
          refine ⟨v :: vs, by simp [h1], ?_, v, vs, rfl, hx, h3⟩
          intro j u hj
          cases j with
          | zero => simp at hj; subst hj; simpa using hv
          | succ j => simp at hj; have := h2 j u hj; rwa [show o' + 1 + j = o' + (j + 1) from by omega] at this
      obtain ⟨vs, h1, h2, h3⟩ := this (cells.take n) off (H.take n)
      refine key b off vs _ e1 (by rw [h1]; simp; omega) h2 ?_ he.symm
      exact Rl.map_d h3
    · cases he
  · cases he
end

end Go.Vm
