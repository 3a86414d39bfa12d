/- Each operation of the model does what the abstract machine says: more of those that leave the memory alone. -/
import Derived.Test.YtbfmeoiblppnbaaVmOps3
set_option linter.unusedVariables false
set_option linter.unusedSectionVars false
set_option linter.unusedSimpArgs false
namespace Go.Vm

theorem equalIn_bool {P : Program} {t : TypeId} (ht : P.underlying t = some .bool) (p q : Bool) (w : World) (d : Nat) : (Op.equalIn (d + 1) t (.bool p) (.bool q)).run P w = .ok (p == q) w := by
  simp [Op.equalIn, run_und ht]

section
variable {P : Program} {o : Oper} {act : Act} {c : C} {role : Nat → Option Nat} {st : St}
variable (hs : ∀ n, R c (st.slot n) (act.tmps.getD n undef)) (hobs : ∀ id, ObOK c role id)
include hs hobs

theorem does_beq {op : BinOp} {neg : Bool} {t yt : TypeId} {x y : Operand} {l : List SA} {out : Out} {Γ : Ctx} {d : Nat} (ho : o.op = .binOp op t x y yt) (ht : P.underlying t = some .bool)
    (hop : (op = .eql ∧ neg = false) ∨ (op = .neq ∧ neg = true)) (hl : compAs [x, y] = some l) (he : eval Γ c.ob d (.beq neg) (l.map st.get) = some out) : Does P o act c role out := by
  obtain ⟨a, b, rfl, h1, h2⟩ := args2 hs hobs hl
  simp only [eval, List.map_cons, List.map_nil] at he
  split at he
  · rename_i p q heq
    simp only [List.cons.injEq, and_true] at heq
    obtain ⟨e1, e2⟩ := heq
    rw [e1] at h1; rw [e2] at h2
    simp only [R, RD] at h1 h2
    rw [ok_some he]
    have hq : (Op.equal t (.bool p) (.bool q)).run P c.w = .ok (p == q) c.w := equalIn_bool ht p q c.w 9999
    refine Does.pure hobs (v := .bool (if neg then !(p == q) else p == q)) ?_ rfl
    rcases hop with ⟨rfl, rfl⟩ | ⟨rfl, rfl⟩ <;> simp only [execOp, ho, Sem.run_bind, h1, h2, eqGuard, binOp, hq, Result.andThen_ok, Sem.run_pure, Bool.false_eq_true, if_false, if_true, Bool.not_true, Sem.run_ite] <;> simp
  · cases he

theorem does_neg {t : TypeId} {x : Operand} {sa : SA} {out : Out} {Γ : Ctx} {d : Nat} (ho : o.op = .unOp .neg t x) (hx : compA x = some sa) (he : eval Γ c.ob d .neg [st.get sa] = some out) :
    Does P o act c role out := by
  have hr := compA_R hs hx
  generalize st.get sa = a at he hr
  simp only [eval] at he
  split at he
  · rename_i k n heq
    simp only [List.cons.injEq, and_true] at heq; subst heq
    rw [ok_some he]
    simp only [R, RD] at hr
    exact Does.pure hobs (v := .int k (k.wrap (0 - n))) (by simp [execOp, ho, hr, Op.unary, Op.intArith]) rfl
  · cases he

theorem does_not {t : TypeId} {x : Operand} {sa : SA} {out : Out} {Γ : Ctx} {d : Nat} (ho : o.op = .unOp .not t x) (hx : compA x = some sa) (he : eval Γ c.ob d .not [st.get sa] = some out) :
    Does P o act c role out := by
  have hr := compA_R hs hx
  generalize st.get sa = a at he hr
  simp only [eval] at he
  split at he
  · rename_i b heq
    simp only [List.cons.injEq, and_true] at heq; subst heq
    rw [ok_some he]
    simp only [R, RD] at hr
    exact Does.pure hobs (v := .bool !b) (by simp [execOp, ho, hr, Op.unary]) rfl
  · cases he

theorem does_cvt {s t : TypeId} {k k' : IntKind} {x : Operand} {sa : SA} {out : Out} {Γ : Ctx} {d : Nat} (ho : o.op = .convert s t x) (hus : P.underlying s = some (.int k')) (hut : P.underlying t = some (.int k))
    (hx : compA x = some sa) (he : eval Γ c.ob d (.cvt k) [st.get sa] = some out) : Does P o act c role out := by
  have hr := compA_R hs hx
  generalize st.get sa = a at he hr
  simp only [eval] at he
  split at he
  · rename_i k2 n heq
    simp only [List.cons.injEq, and_true] at heq; subst heq
    rw [ok_some he]
    simp only [R, RD] at hr
    exact Does.pure hobs (v := .int k (k.wrap n)) (by simp [execOp, ho, hr, convert, run_und hus, run_und hut, Conv.intToInt]) rfl
  · cases he

theorem boxCells_R : ∀ {cs : List A} {xs : List D} {vs : List Value}, boxCells cs = some xs → Rl c cs vs → RDl c.S c.w xs vs
  | [], xs, vs, h, hr => by simp only [boxCells, Option.some.injEq] at h; subst h; exact hr
  | a :: cs, xs, vs, h, ⟨v, r, e, hv, hr⟩ => by
    cases a <;> simp only [boxCells, Option.map_eq_some_iff, reduceCtorEq] at h
    obtain ⟨ys, hy, rfl⟩ := h
    exact ⟨v, r, e, hv, boxCells_R hy hr⟩

theorem does_mkF {f : FuncId} {first caps : Array Operand} {out : Out} {Γ : Ctx} {d : Nat} (ho : o.op = .makeFunc (.func f) first caps) (h1 : first.size = 0) (h2 : caps.size = 0)
    (he : eval Γ c.ob d (.mkF f) [] = some out) : Does P o act c role out := by
  simp only [eval] at he
  rw [ok_some he]
  have e1 : first = #[] := Array.size_eq_zero_iff.1 h1
  have e2 : caps = #[] := Array.size_eq_zero_iff.1 h2
  subst e1; subst e2
  exact Does.pure hobs (v := .func (.func f) #[] #[]) (by simp [execOp, ho, Instr.makeFunc]) rfl

theorem does_fa {t : TypeId} {fs : Array Field} {f : Nat} {fd : Field} {n : Nat} {x : Operand} {sa : SA} {out : Out} (ho : o.op = .fieldAddr t x f) (ht : P.underlying t = some (.struct fs))
    (hf : fs[f]? = some fd) (hn : sizeP P fd.type = some n) (hn0 : n ≠ 0) (hx : compA x = some sa) (he : evFa c.ob fd.offset [st.get sa] = some out) : Does P o act c role out := by
  have hr := compA_R hs hx
  generalize st.get sa = a at he hr
  have hrun : ∀ b off, act.eval x = .pointer (some ⟨b, off, none⟩) → (execOp act.eval o).run P c.w = .ok (.value (.pointer (some ⟨b, off + fd.offset, none⟩))) c.w := by
    intro b off h
    simp [execOp, ho, h, Instr.fieldAt, run_und ht, hf, Instr.sureAddr, fieldPlace, sizeP_run hn, hn0, Addr.add_mk]
  unfold evFa at he
  split at he <;> rename_i heq
  · rename_i id ver off
    simp only [List.cons.injEq, and_true] at heq; subst heq
    simp only [Option.bind_eq_some_iff] at he
    obtain ⟨cells, hb, he⟩ := he
    rw [ok_some he]
    obtain ⟨b, cs, et, e1, e2, _⟩ := adr_at hs hobs hr hb
    exact Does.pure hobs (hrun b off e2) ⟨rfl, hr.2.1, fun _ _ => ⟨b, e1, rfl⟩⟩
  · rename_i id ver off
    simp only [List.cons.injEq, and_true] at heq; subst heq
    simp only [Option.bind_eq_some_iff] at he
    obtain ⟨⟨ze, zs, zn, zc, cells⟩, hb, he⟩ := he
    rw [ok_some he]
    obtain ⟨b, k, xs, e1, e2, _⟩ := rad_at hs hobs hr hb
    exact Does.pure hobs (hrun b off e2) ⟨rfl, hr.2.1, fun _ _ => ⟨b, _, k, e1, rfl⟩⟩
  · rename_i cells
    simp only [List.cons.injEq, and_true] at heq; subst heq
    split at he
    · rw [ok_some he]
      obtain ⟨b, off, e1, H⟩ := hr
      exact Does.pure hobs (hrun b off e1) ⟨b, off + fd.offset, rfl, H.drop _⟩
    · cases he
  · rename_i id ver
    simp only [List.cons.injEq, and_true] at heq; subst heq
    obtain ⟨q, hb, he⟩ := Option.bind_eq_some_iff.1 he
    cases hq : q.1 with
    | map t n => rw [hq] at he; cases he
    | bld T e =>
      rw [hq] at he
      simp only at he
      split at he
      · rename_i h0
        rw [ok_some he]
        obtain ⟨e1, vs, e2, _⟩ := res_at hs hobs hr hb
        rw [hq] at e2
        obtain ⟨b, s, e3, _⟩ := e2
        have hv := hrun b 0 (e1.trans e3)
        rw [h0, Nat.add_zero] at hv
        refine Does.pure hobs hv ?_
        rw [← e3, ← e1]; exact hr
      · cases he
  · cases he

theorem does_fld {t : TypeId} {fs : Array Field} {f : Nat} {fd : Field} {n : Option Nat} {x : Operand} {sa : SA} {out : Out} {Γ : Ctx} {d : Nat} (ho : o.op = .field t x f) (ht : P.underlying t = some (.struct fs))
    (hf : fs[f]? = some fd) (hn : aggP P fd.type = some n) (hx : compA x = some sa) (he : eval Γ c.ob d (.fld fd.offset n) [st.get sa] = some out) : Does P o act c role out := by
  have hr := compA_R hs hx
  generalize st.get sa = a at he hr
  cases n with
  | none =>
    simp only [eval] at he
    split at he
    · rename_i cs heq
      simp only [List.cons.injEq, and_true] at heq; subst heq
      simp only [Option.bind_eq_some_iff] at he
      obtain ⟨y, hy, he⟩ := he
      rw [ok_some he]
      obtain ⟨vs, e, H⟩ := hr
      obtain ⟨u, hu, hru⟩ := H.get _ y hy
      refine Does.pure hobs (v := u) ?_ hru
      have hu' : vs[fd.offset]? = some u := by simpa using hu
      simp [execOp, ho, e, Instr.field, run_und ht, hf, part, aggP_none hn, asAgg, hu']
    · cases he
  | some n =>
    simp only [eval] at he
    split at he
    · rename_i cs heq
      simp only [List.cons.injEq, and_true] at heq; subst heq
      split at he
      · rename_i hlen
        rw [ok_some he]
        obtain ⟨vs, e, H⟩ := hr
        refine Does.pure hobs (v := .agg (vs.extract fd.offset (fd.offset + n))) ?_ ⟨_, rfl, ?_⟩
        · simp [execOp, ho, e, Instr.field, run_und ht, hf, part, (aggP_some hn c.w).1, (aggP_some hn c.w).2, asAgg]
        · have := Rl.take n (Rl.drop fd.offset H)
          rw [Array.toList_extract, List.extract_eq_take_drop, Nat.add_sub_cancel_left]
          exact this
      · cases he
    · cases he

theorem does_ext {i : Nat} {x : Operand} {sa : SA} {out : Out} {Γ : Ctx} {d : Nat} (ho : o.op = .extract x i) (hx : compA x = some sa) (he : eval Γ c.ob d (.ext i) [st.get sa] = some out) : Does P o act c role out := by
  have hr := compA_R hs hx
  generalize st.get sa = a at he hr
  simp only [eval] at he
  split at he
  · rename_i cs heq
    simp only [List.cons.injEq, and_true] at heq; subst heq
    simp only [Option.bind_eq_some_iff] at he
    obtain ⟨y, hy, he⟩ := he
    rw [ok_some he]
    obtain ⟨vs, e, H⟩ := hr
    obtain ⟨u, hu, hru⟩ := H.get _ y hy
    have hu' : vs[i]? = some u := by simpa using hu
    exact Does.pure hobs (v := u) (by simp [execOp, ho, e, Instr.extract, hu']) hru
  · cases he

theorem does_ixs {t : TypeId} {x y : Operand} {l : List SA} {out : Out} {Γ : Ctx} {d : Nat} (ho : o.op = .index t x y) (ht : P.underlying t = some .string) (hl : compAs [x, y] = some l)
    (he : eval Γ c.ob d .ixs (l.map st.get) = some out) : Does P o act c role out := by
  obtain ⟨a, b, rfl, h1, h2⟩ := args2 hs hobs hl
  simp only [eval, List.map_cons, List.map_nil] at he
  split at he
  · rename_i s k i heq
    simp only [List.cons.injEq, and_true] at heq
    obtain ⟨e1, e2⟩ := heq
    rw [e1] at h1; rw [e2] at h2
    simp only [R, RD] at h1 h2
    split at he
    · rename_i hi
      rw [ok_some he]
      refine Does.pure hobs (v := .int .u8 (s.data.getD i.toNat 0).toNat) ?_ rfl
      have hlt : i.toNat < s.size := by omega
      have hg : s[i.toNat]? = some (s.data.getD i.toNat 0) := by
        rw [getElem?_pos s i.toNat hlt]
        simp only [Option.some.injEq]
        show s.data[i.toNat] = _
        rw [Array.getD_eq_getD_getElem?, Array.getElem?_eq_getElem (show i.toNat < s.data.size from hlt)]
        rfl
      simp [execOp, ho, h1, h2, Instr.index, asIntOf, run_und ht, hi.1, hg]
    · cases he
  · cases he

theorem does_mm {mx : Bool} {b : Builtin} {x y : Operand} {args : Array Operand} {tys : Array TypeId} {l : List SA} {out : Out} {Γ : Ctx} {d : Nat} (ho : o.op = .call { callee := .builtin b, args := args, argTypes := tys })
    (hb : (b = .max ∧ mx = true) ∨ (b = .min ∧ mx = false)) (ha : args.toList = [x, y]) (hl : compAs [x, y] = some l) (he : eval Γ c.ob d (.mm mx) (l.map st.get) = some out) : Does P o act c role out := by
  obtain rfl : args = #[x, y] := by have := congrArg List.toArray ha; simpa using this
  obtain ⟨a, b, rfl, h1, h2⟩ := args2 hs hobs hl
  simp only [eval, List.map_cons, List.map_nil] at he
  split at he
  · rename_i k p k' q heq
    simp only [List.cons.injEq, and_true] at heq
    obtain ⟨e1, e2⟩ := heq
    rw [e1] at h1; rw [e2] at h2
    simp only [R, RD] at h1 h2
    split at he
    · rename_i hk; subst hk
      rw [ok_some he]
      refine Does.pure hobs (v := .int k (if mx then (if p < q then q else p) else (if q < p then q else p))) ?_ rfl
      rcases hb with ⟨rfl, rfl⟩ | ⟨rfl, rfl⟩ <;> simp only [execOp, ho, resolve, invoke, builtin, Sem.run_bind, Sem.run_pure, Result.andThen_ok, List.map_toArray, List.map_cons, List.map_nil, h1, h2, Bool.false_eq_true, if_false, if_true] <;>
        simp [Builtin.max_, Builtin.min_, Builtin.max2, Builtin.min2]
    · cases he
  · cases he
end

end Go.Vm
