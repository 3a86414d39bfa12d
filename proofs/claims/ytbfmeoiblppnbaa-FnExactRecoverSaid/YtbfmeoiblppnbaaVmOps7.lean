/- Each operation of the model does what the abstract machine says: cuts, texts out of bytes, structs, new objects. -/
import Derived.Test.YtbfmeoiblppnbaaVmOps6
import Derived.Laws.BytesString
set_option linter.unusedVariables false
set_option linter.unusedSectionVars false
set_option linter.unusedSimpArgs false
namespace Go.Vm

theorem cut_run {P : Program} {c : C} {w : World} {ρ : Operand → Value} {n cap : Nat} {lo hi : Option Operand} {bs : List A} {l h : Nat} {sl : Bool} (hc : cutLo n lo.isSome hi.isSome bs = some (l, h))
    (hb : Rl c bs ((lo.toList ++ hi.toList).map ρ)) (hn : n ≤ cap) :
    (Instr.sliceBounds sl n cap (lo.map ρ) (hi.map ρ) none).run P w = .ok (l, h, cap) w ∧ l ≤ h ∧ h ≤ n := by
  have key : ∀ (x : Value) (y : Nat) (code : BoundsCode) (k : IntKind) (i : Int), x = .int k i → 0 ≤ i → i ≤ y → (Instr.sliceBound x y code).run P w = .ok i.toNat w := by
    rintro _ y code k i rfl h0 h1
    simp [Instr.sliceBound, asIntOf, h0, h1]
  cases lo with
  | none =>
    cases hi with
    | none =>
      simp only [Option.toList_none, List.append_nil, List.map_nil] at hb
      have : bs = [] := by cases bs with | nil => rfl | cons a r => obtain ⟨v, s, e, _⟩ := hb; cases e
      subst this
      simp [cutLo] at hc
      obtain ⟨rfl, rfl⟩ := hc
      exact ⟨by simp [Instr.sliceBounds], Nat.zero_le _, Nat.le_refl _⟩
    | some y =>
      simp only [Option.toList_none, Option.toList_some, List.nil_append, List.map_cons, List.map_nil] at hb
      cases bs with
      | nil => simp [Rl] at hb
      | cons a r =>
        obtain ⟨v, s, e, ha, hr⟩ := hb
        injection e with e1 e2
        subst e1; subst e2
        cases r with
        | cons a' r' => obtain ⟨v, s, e, _⟩ := hr; cases e
        | nil =>
          unfold cutLo at hc
          split at hc <;> rename_i heq
          · simp at heq
          · simp only [List.cons.injEq, and_true] at heq; subst heq
            simp at hc
            obtain ⟨⟨h0, h1⟩, rfl, rfl⟩ := hc
            simp only [R, RD] at ha
            refine ⟨?_, Nat.zero_le _, by omega⟩
            simp [Instr.sliceBounds, key _ _ _ _ _ ha h0 (show _ ≤ (cap : Int) by omega)]
          · simp at heq
          · cases hc
  | some x =>
    cases hi with
    | none =>
      simp only [Option.toList_none, Option.toList_some, List.append_nil, List.map_cons, List.map_nil] at hb
      cases bs with
      | nil => simp [Rl] at hb
      | cons a r =>
        obtain ⟨v, s, e, ha, hr⟩ := hb
        injection e with e1 e2
        subst e1; subst e2
        cases r with
        | cons a' r' => obtain ⟨v, s, e, _⟩ := hr; cases e
        | nil =>
          unfold cutLo at hc
          split at hc <;> rename_i heq
          · simp at heq
          · simp only [List.cons.injEq, and_true] at heq; subst heq
            simp at hc
            obtain ⟨⟨h0, h1⟩, rfl, rfl⟩ := hc
            simp only [R, RD] at ha
            refine ⟨?_, by omega, Nat.le_refl _⟩
            simp [Instr.sliceBounds, key _ _ _ _ _ ha h0 h1]
          · simp at heq
          · cases hc
    | some y =>
      simp only [Option.toList_some, List.cons_append, List.nil_append, List.map_cons, List.map_nil] at hb
      cases bs with
      | nil => simp [Rl] at hb
      | cons a r =>
        obtain ⟨v, s, e, ha, hr⟩ := hb
        injection e with e1 e2
        subst e1; subst e2
        cases r with
        | nil => simp [Rl] at hr
        | cons a' r' =>
          obtain ⟨v, s, e, ha', hr⟩ := hr
          injection e with e1 e2
          subst e1; subst e2
          cases r' with
          | cons a' r' => obtain ⟨v, s, e, _⟩ := hr; cases e
          | nil =>
            unfold cutLo at hc
            split at hc
            · rename_i k1 i1 k2 i2 heq
              simp only [List.cons.injEq, and_true] at heq
              obtain ⟨rfl, rfl⟩ := heq
              simp at hc
              obtain ⟨⟨h0, h1, h2⟩, rfl, rfl⟩ := hc
              simp only [R, RD] at ha ha'
              refine ⟨?_, by omega, by omega⟩
              have q1 := fun code => key _ cap code k2 i2 ha' (by omega) (by omega)
              have q2 := fun code => key _ i2.toNat code k1 i1 ha h0 (by omega)
              simp [Instr.sliceBounds, q1, q2]
            · rename_i heq; simp at heq
            · rename_i heq; simp at heq
            · cases hc

section
variable {P : Program} {o : Oper} {act : Act} {c : C} {role : Nat → Option Nat} {st : St}
variable (hs : ∀ n, R c (st.slot n) (act.tmps.getD n undef)) (hobs : ∀ id, ObOK c role id)
include hs hobs

theorem does_slc {t : TypeId} {u : TypeDesc} {str : Bool} {sz : Nat} {x : Operand} {lo hi : Option Operand} {l : List SA} {out : Out} (ho : o.op = .slice t x lo hi none) (ht : P.underlying t = some u)
    (hu : (u = .string ∧ str = true) ∨ ((∃ e, u = .slice e ∧ sizeP P e = some sz) ∧ str = false)) (hl : compAs ([x] ++ lo.toList ++ hi.toList) = some l)
    (he : evSlc c.ob str sz lo.isSome hi.isSome (l.map st.get) = some out) : Does P o act c role out := by
  have hR := compAs_R hs hl
  generalize l.map st.get = as at he hR
  simp only [List.cons_append, List.nil_append, List.map_cons] at hR
  have hlist : ∀ (a : Option Addr) (n cap l h : Nat), act.eval x = .slice a n cap → str = false → (Instr.sliceBounds true n cap (lo.map act.eval) (hi.map act.eval) none).run P c.w = .ok (l, h, cap) c.w →
      (execOp act.eval o).run P c.w = .ok (.value (.slice (if cap = l then a else a.map (·.add (l * sz))) (h - l) (cap - l))) c.w := by
    intro a n cap l h hv hst hb
    obtain ⟨⟨e, rfl, hsz⟩, _⟩ : (∃ e, u = .slice e ∧ sizeP P e = some sz) ∧ str = false := by rcases hu with h | h; simp_all; exact h
    simp [execOp, ho, Instr.sliceAt, run_und ht, Instr.slice, hv, hb, sizeP_run hsz]
  have hRD : ∀ (S : Nat → Nat) (a : Option Addr) (n cap l h : Nat) (cells : List D), RD S c.w (.lst n cells) (.slice a n cap) → l ≤ h → h ≤ n → n ≤ cap → (l * sz ≤ cells.length) →
      RD S c.w (.lst (h - l) ((cells.drop (l * sz)).take ((h - l) * sz))) (.slice (if cap = l then a else a.map (·.add (l * sz))) (h - l) (cap - l)) := by
    rintro S a n cap l h cells ⟨a', cap', e1, e2, e3, e4⟩ h1 h2 h3 h4
    injection e1 with q1 q2 q3
    subst q1; subst q3
    refine ⟨_, _, rfl, by omega, ?_, ?_⟩
    · intro hn
      split at hn
      · have := e3 hn; exact ⟨by omega, by omega, by rw [this.2.2]; simp⟩
      · have := e3 (by simpa using hn); exact ⟨by omega, by omega, by rw [this.2.2]; simp⟩
    · intro p hp
      split at hp
      · rename_i hcl
        have h0 : h - l = 0 := by omega
        refine ⟨.inr ⟨by omega, by rw [h0]; simp⟩, ?_⟩
        rw [h0]; simp [RDat]
      · cases a with
        | none => simp at hp
        | some q =>
          simp only [Option.map_some, Option.some.injEq] at hp
          subst hp
          obtain ⟨w1, w2⟩ := e4 q rfl
          rcases w1 with w1 | ⟨w1, w1'⟩
          · obtain ⟨qb, qo, qs⟩ := q
            simp only at w1 w2
            subst w1
            rw [Addr.add_mk]
            exact ⟨.inl rfl, (w2.drop _).take _⟩
          · subst w1'
            exact ⟨.inr ⟨by omega, by simp⟩, by simp [RDat]⟩
  unfold evSlc at he
  split at he
  · rename_i s bs
    obtain ⟨v, r, e, hx, hr⟩ := hR
    injection e with e1 e2
    subst e1; subst e2
    simp only [R, RD] at hx
    split at he
    · rename_i hst
      simp only [Option.bind_eq_some_iff] at he
      obtain ⟨⟨l, h⟩, hc, he⟩ := he
      rw [ok_some he]
      obtain ⟨hb, _⟩ := cut_run (P := P) (w := c.w) (sl := false) hc hr (Nat.le_refl _)
      obtain rfl : u = .string := by rcases hu with h | h; exact h.1; simp_all
      refine Does.pure hobs (v := .string (s.extract l h)) ?_ rfl
      simp [execOp, ho, Instr.sliceAt, run_und ht, Instr.slice, hx, hb]
    · cases he
  · rename_i n cells bs
    obtain ⟨v, r, e, hx, hr⟩ := hR
    injection e with e1 e2
    subst e1; subst e2
    split at he
    · cases he
    · rename_i hst
      simp only [Option.bind_eq_some_iff] at he
      obtain ⟨⟨l, h⟩, hc, he⟩ := he
      simp only at he
      split at he
      · rename_i hlen
        rw [ok_some he]
        obtain ⟨a, cap, e3, e4, e5, e6⟩ := id hx
        obtain ⟨hb, q1, q2⟩ := cut_run (P := P) (w := c.w) (sl := true) hc hr e4
        have hx' : RD c.S c.w (.lst n cells) (.slice a n cap) := by rw [← e3]; exact hx
        exact Does.pure hobs (hlist a n cap l h e3 (by simpa using hst) hb) (hRD c.S a n cap l h cells hx' q1 q2 e4 hlen)
      · cases he
  · rename_i id ver bs
    obtain ⟨v, r, e, hx, hr⟩ := hR
    injection e with e1 e2
    subst e1; subst e2
    split at he
    · cases he
    · rename_i hst
      simp only [Option.bind_eq_some_iff] at he
      obtain ⟨⟨ze, zs, n, zc, cells⟩, hrow, he⟩ := he
      simp only at he
      split at he
      · rename_i hzs
        subst hzs
        simp only [Option.bind_eq_some_iff] at he
        obtain ⟨⟨l, h⟩, hc, he⟩ := he
        simp only [Option.some.injEq] at he
        subst he
        obtain ⟨e1, xs, h3, h4, h5, h6⟩ := row_at hs hobs hx hrow
        obtain ⟨a, cap, e2, e4, _⟩ := own_cap h3
        obtain ⟨hb, q1, q2⟩ := cut_run (P := P) (w := c.w) (sl := true) hc hr e4
        have ho1 := (rowAt_some hrow).1
        obtain ⟨S', x1, x2⟩ := ext_leak hobs id ho1
        have hle := x1.le.stab
        have hRDrow : RD S' c.w (.lst n cells) (c.hd id) := RD_of_row h3 (RDl.mono hle _ _ h4) fun b hb' => Nat.le_of_eq (x2 b hb').symm
        have hlen : l * zs ≤ cells.length := by
          have := h3.1; have := h4.length
          have : l * zs ≤ n * zs := Nat.mul_le_mul_right _ (by omega)
          omega
        refine ⟨_, _, S', c.w, c.hd, role, hlist a n cap l h (e1.trans e2) (by simpa using hst) hb, .inl rfl, x1, ?_⟩
        exact hRD S' a n cap l h cells (by rw [← e2]; exact hRDrow) q1 q2 e4 hlen
      · cases he
  · cases he
end

end Go.Vm
