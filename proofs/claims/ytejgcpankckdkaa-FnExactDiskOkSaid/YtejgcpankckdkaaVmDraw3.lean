/- A region whose order is drawn: the whole. -/
import Derived.Test.YtejgcpankckdkaaVmDraw2
set_option linter.unusedVariables false
set_option linter.unusedSectionVars false
set_option linter.unusedSimpArgs false
namespace Go.Vm

section
variable {F : Fr} {P : Program} {Γ : Ctx}

theorem apart_spec {x y : SOper} (h : apart x y = true) : (∀ d, x.dst = some d → d ∉ y.reads) ∧ (∀ d, x.dst = some d → y.dst ≠ some d) ∧ (∀ d, y.dst = some d → d ∉ x.reads) := by
  unfold apart at h
  simp only [Bool.and_eq_true] at h
  obtain ⟨h1, h2⟩ := h
  refine ⟨?_, ?_, ?_⟩
  · intro d hd hm
    rw [hd] at h1
    simp only [Bool.and_eq_true, Bool.not_eq_true', List.any_eq_false, beq_iff_eq] at h1
    exact h1.1 d hm rfl
  · intro d hd hy
    rw [hd] at h1
    simp only [Bool.and_eq_true, Bool.not_eq_true', beq_eq_false_iff_ne, ne_eq] at h1
    exact h1.2 hy
  · intro d hd hm
    rw [hd] at h2
    simp only [Bool.not_eq_true', List.any_eq_false, beq_iff_eq] at h2
    exact h2 d hm rfl

theorem step_slot {o : SOper} {st s : St} (h : step Γ o st = some (.normal, s)) {n : Nat} (hn : o.dst ≠ some n) : s.slot n = st.slot n := by
  have put_slot : ∀ (t : St) (a : A), (t.put o.dst a).slot n = t.slot n := by
    intro t a
    have := put_get (st := t) (d := o.dst) (a := a) (x := .t n) (by rintro m e; cases e; exact hn)
    exact this
  unfold step at h
  have go : ∀ x, (eval Γ st.ob (o.dst.getD 0) o.op (o.args.map st.get)).map (fun
        | .val a us => (Ex.normal, ({ st with ob := updAll st.ob us } : St).put o.dst a)
        | .pan x us => (.panic x, { st with ob := updAll st.ob us })) = some x → x = (.normal, s) → s.slot n = st.slot n := by
    intro x hx e
    obtain ⟨out, _, hx⟩ := map_some hx
    subst e
    cases out with
    | val a us =>
      simp only [Prod.mk.injEq, true_and] at hx
      subst hx
      exact put_slot _ _
    | pan x us => simp at hx
  cases hg : o.guard with
  | none => rw [hg] at h; exact go _ h rfl
  | some gw =>
    obtain ⟨g, w⟩ := gw
    rw [hg] at h
    simp only at h
    split at h
    · exact go _ h rfl
    · simp only [Option.some.injEq, Prod.mk.injEq, true_and] at h
      subst h
      exact put_slot _ _
    · cases h

/-- what is listed, is listed with all that it comes after -/
def Closed (ops : Array Oper) (listed : Array Bool) : Prop := ∀ k o, listed.getD k false = true → ops[k]? = some o → ∀ e ∈ o.after, Region.binds .any e = true → listed.getD e.on false = true

theorem Closed.set {ops : Array Oper} {listed : Array Bool} (h : Closed ops listed) {j : Nat} (hj : j ∈ Region.ready .any ops listed) : Closed ops (listed.setIfInBounds j true) := by
  intro k o hk ho e he hb
  by_cases hjk : j = k
  · subst hjk
    obtain ⟨_, o', ho', hall⟩ := mem_ready.1 hj
    rw [ho] at ho'; cases ho'
    exact getD_set_true (hall e he hb)
  · rw [getD_set_ne false hjk] at hk
    exact getD_set_true (h k o hk ho e he hb)

theorem Closed.deps {ops : Array Oper} {listed : Array Bool} (h : Closed ops listed) {i : Nat} : ∀ (n k : Nat), listed.getD k false = true → Vm.deps ops n k i = true → listed.getD i false = true
  | 0, _, _, hd => by cases hd
  | n + 1, k, hk, hd => by
    simp only [Vm.deps] at hd
    cases ho : ops[k]? with
    | none => rw [ho] at hd; cases hd
    | some o =>
      rw [ho] at hd
      obtain ⟨e, he, hb⟩ := Array.any_eq_true'.1 hd
      simp only [Bool.and_eq_true, Bool.or_eq_true, beq_iff_eq] at hb
      have hl := h k o hk ho e he hb.1
      rcases hb.2 with q | q
      · rw [← q]; exact hl
      · exact h.deps n e.on hl q

theorem Closed.ready {ops : Array Oper} {listed : Array Bool} (h : Closed ops listed) {i j n : Nat} (hj : j ∈ Region.ready .any ops listed) (hi : i ∈ Region.ready .any ops listed) : Vm.deps ops n j i = false := by
  cases hd : Vm.deps ops n j i with
  | false => rfl
  | true =>
    exfalso
    have hl : listed.getD i false = true := by
      cases n with
      | zero => cases hd
      | succ n =>
        simp only [Vm.deps] at hd
        obtain ⟨_, o, ho, hall⟩ := mem_ready.1 hj
        rw [ho] at hd
        obtain ⟨e, he, hb⟩ := Array.any_eq_true'.1 hd
        simp only [Bool.and_eq_true, Bool.or_eq_true, beq_iff_eq] at hb
        have hl := hall e he hb.1
        rcases hb.2 with q | q
        · rw [← q]; exact hl
        · exact h.deps n e.on hl q
    have h0 := (mem_ready.1 hi).1
    rcases Nat.lt_or_ge i listed.size with h' | h'
    · simp [h'] at hl h0; rw [h0] at hl; cases hl
    · simp [Array.getElem?_eq_none h'] at hl

theorem anyS_first {ops : Array Oper} {N : Nat} {R : List Nat} {Q : Ex × St → Prop} {i : Nat} {o : SOper} {a : A} (ho : opAt P ops N i = some o) (hq : o.op.quiet = true)
    (hflat : ∀ a, SA.k a ∈ o.args → refs a = []) (hQ : ∀ x s s', s.ob = s'.ob → Q (.panic x, s) → Q (.panic x, s')) : ∀ (fuel : Nat) (listed : Array Bool) (st : St),
    (∀ j, j ≠ i → listed.getD j true = false → deps ops ops.size j i = false → ∀ sj, opAt P ops N j = some sj → apart o sj = true ∧ (o.op.looks = true → sj.op.quiet = false → ∀ n ∈ o.reads, ∀ id ∈ refs (st.slot n), id ∈ R)) →
    Closed ops listed → i ∈ Region.ready .any ops listed → Puts Γ o a st → anyS P Γ ops N R Q fuel (listed.setIfInBounds i true) (st.put o.dst a) → anyS P Γ ops N R Q (fuel + 1) listed st := by
  intro fuel
  have self : ∀ (K : St → Prop) (st : St), Puts Γ o a st → K (st.put o.dst a) → goS P Γ ops N R Q i K st := by
    intro K st hp hK
    exact ⟨o, ho, .normal, _, hp.1, fun _ => ⟨hK, fun _ => put_ob, fun h => (by rw [hq] at h; cases h)⟩, (fun x e => by cases e), .inl rfl⟩
  induction fuel with
  | zero =>
    intro listed st _ hcl hr hy H
    refine ⟨fun h => (by rw [h] at hr; cases hr), fun j hj => ?_⟩
    by_cases hji : j = i
    · subst hji; exact self _ st hy H
    · have := ready_mono hj hji
      rw [H.1] at this
      cases this
  | succ fuel ih =>
    intro listed st hfree hcl hr hy H
    refine ⟨fun h => (by rw [h] at hr; cases hr), fun j hj => ?_⟩
    by_cases hji : j = i
    · subst hji; exact self _ st hy H
    · obtain ⟨sj, hsj, ex, s1, hstep, h1, h2, h3⟩ := H.2 j (ready_mono hj hji)
      obtain ⟨hjun, oj, hoj, hall⟩ := mem_ready.1 hj
      have hnot : deps ops ops.size j i = false := hcl.ready hj hr
      obtain ⟨hap, hR⟩ := hfree j hji hjun hnot sj hsj
      obtain ⟨a1, a2, a3⟩ := apart_spec hap
      rw [step_put a1 a2] at hstep
      obtain ⟨⟨ex0, s0⟩, hst0, e0⟩ := map_some hstep
      simp only [Prod.mk.injEq] at e0
      obtain ⟨rfl, rfl⟩ := e0
      refine ⟨sj, hsj, ex0, s0, hst0, ?_, ?_, h3⟩
      · rintro rfl
        obtain ⟨k1, k2, k3⟩ := h1 rfl
        rw [put_ob, put_ob] at k2
        have k3' : sj.op.quiet = false → SameOn R st s0 := by
          intro hsq id hid
          have := k3 hsq id hid
          rwa [put_ob, put_ob] at this
        refine ⟨?_, k2, k3'⟩
        have hslots : ∀ n ∈ o.reads, s0.slot n = st.slot n := fun n hn => step_slot hst0 (fun e => a3 n e hn)
        have hy0 : Puts Γ o a s0 := by
          refine hy.of hq hslots ?_ hflat
          intro hlk n hn id hid
          cases hsq : sj.op.quiet with
          | true => rw [k2 hsq]; exact ⟨rfl, rfl⟩
          | false => exact k3' hsq id (hR hlk hsq n hn id hid)
        refine ih (listed.setIfInBounds j true) s0 ?_ (hcl.set hj) (ready_mono hr (Ne.symm hji)) hy0 ?_
        · intro k hki hun hno sk hsk
          have hjk : j ≠ k := by
            rintro rfl
            rcases Nat.lt_or_ge j listed.size with h' | h'
            · simp [h'] at hun
            · simp [h'] at hjun
          rw [getD_set_ne true hjk] at hun
          obtain ⟨q1, q2⟩ := hfree k hki hun hno sk hsk
          exact ⟨q1, fun hlk hkq n hn id hid => q2 hlk hkq n hn id (by rw [hslots n hn] at hid; exact hid)⟩
        · rw [Array.setIfInBounds_comm _ _ hji]; exact k1
      · rintro x rfl
        exact hQ x _ _ put_ob (h2 x rfl)

theorem touched_mild {op : SOp} {ob : Nat → Ob} {id : Nat} {x : Ob} : ∀ {us : List (Nat × Ob)}, (id, x) ∈ us → id ∉ touched op ob us → op.isSt = false ∧ x.leak = true ∧ x.ver = (ob id).ver
  | [], h, _ => by cases h
  | (i, y) :: us, h, hn => by
    simp only [touched] at hn
    split at hn
    · rename_i hc
      simp only [Bool.and_eq_true, Bool.not_eq_true', beq_iff_eq] at hc
      rcases List.mem_cons.1 h with e | h
      · cases e; exact ⟨hc.1.1, hc.1.2, hc.2⟩
      · exact touched_mild h hn
    · simp only [List.mem_cons, not_or] at hn
      rcases List.mem_cons.1 h with e | h
      · cases e; exact absurd rfl hn.1
      · exact touched_mild h hn.2

theorem exec_spec {o : SOper} {st s : St} {ex : Ex} {T : List Nat} (h : exec Γ o st = some (ex, s, T)) : step Γ o st = some (ex, s) ∧ (ex = .normal ∨ ∃ x, ex = .panic x) ∧
    (o.op.quiet = true → ∃ a, ex = .normal ∧ s = st.put o.dst a ∧ Puts Γ o a st ∧ T = []) ∧
    (o.op.quiet = false → ∀ R : List Nat, (∀ id ∈ T, id ∉ R) → ex = .normal → SameOn R st s) := by
  have go : ∀ y, (eval Γ st.ob (o.dst.getD 0) o.op (o.args.map st.get)).bind (fun
        | .val a us => if o.op.quiet && !us.isEmpty then none else some (Ex.normal, ({ st with ob := updAll st.ob us } : St).put o.dst a, touched o.op st.ob us)
        | .pan x us => some (.panic x, { st with ob := updAll st.ob us }, [])) = some y → y = (ex, s, T) →
      (eval Γ st.ob (o.dst.getD 0) o.op (o.args.map st.get)).map (fun
        | .val a us => (Ex.normal, ({ st with ob := updAll st.ob us } : St).put o.dst a)
        | .pan x us => (.panic x, { st with ob := updAll st.ob us })) = some (ex, s) ∧ (ex = .normal ∨ ∃ x, ex = .panic x) ∧
      (o.op.quiet = true → ∃ a, ex = .normal ∧ s = st.put o.dst a ∧ eval Γ st.ob (o.dst.getD 0) o.op (o.args.map st.get) = some (.val a []) ∧ T = []) ∧
      (o.op.quiet = false → ∀ R : List Nat, (∀ id ∈ T, id ∉ R) → ex = .normal → SameOn R st s) := by
    rintro y hy rfl
    obtain ⟨out, he, hy⟩ := bind_some hy
    rw [he]
    cases out with
    | val a us =>
      simp only at hy
      split at hy
      · cases hy
      · rename_i hc
        simp only [Option.some.injEq, Prod.mk.injEq] at hy
        obtain ⟨rfl, rfl, rfl⟩ := hy
        refine ⟨rfl, .inl rfl, ?_, ?_⟩
        · intro hq
          have : us = [] := by
            rw [hq] at hc
            simpa using hc
          subst this
          exact ⟨a, rfl, rfl, rfl, rfl⟩
        · intro hq R hR _ id hid
          rw [put_ob]
          simp only
          rcases updAll_or (id := id) us st.ob with e | ⟨x, h1, h2⟩
          · rw [e]; exact ⟨rfl, rfl⟩
          · have hnt : id ∉ touched o.op st.ob us := fun hm => hR id hm hid
            obtain ⟨q1, q2, q3⟩ := touched_mild h1 hnt
            rw [h2]
            exact ⟨q3, mild_eval q1 hq he _ h1 q2 q3⟩
    | pan x us =>
      simp only [Option.some.injEq, Prod.mk.injEq] at hy
      obtain ⟨rfl, rfl, rfl⟩ := hy
      refine ⟨rfl, .inr ⟨x, rfl⟩, ?_, ?_⟩
      · intro hq; exact (eval_quiet_val hq he).elim
      · intro _ _ _ e; cases e
  unfold exec at h
  cases hg : o.guard with
  | none =>
    rw [hg] at h
    obtain ⟨h1, h2, h3, h4⟩ := go _ h rfl
    have hs : step Γ o st = some (ex, s) := by unfold step; simp only [hg]; exact h1
    refine ⟨hs, h2, ?_, h4⟩
    intro hq
    obtain ⟨a, e1, e2, e3, e4⟩ := h3 hq
    subst e1; subst e2
    exact ⟨a, rfl, rfl, ⟨hs, .inl e3⟩, e4⟩
  | some gw =>
    obtain ⟨g, w⟩ := gw
    rw [hg] at h
    simp only at h
    split at h
    · rename_i hb
      obtain ⟨h1, h2, h3, h4⟩ := go _ h rfl
      have hs : step Γ o st = some (ex, s) := by unfold step; simp only [hg, hb]; exact h1
      refine ⟨hs, h2, ?_, h4⟩
      intro hq
      obtain ⟨a, e1, e2, e3, e4⟩ := h3 hq
      subst e1; subst e2
      exact ⟨a, rfl, rfl, ⟨hs, .inl e3⟩, e4⟩
    · rename_i hb
      simp only [Option.some.injEq, Prod.mk.injEq] at h
      obtain ⟨rfl, rfl, rfl⟩ := h
      have hs : step Γ o st = some (.normal, st.put o.dst (.tup [])) := by unfold step; simp only [hg, hb]
      refine ⟨hs, .inl rfl, ?_, ?_⟩
      · intro hq
        exact ⟨.tup [], rfl, rfl, ⟨hs, .inr ⟨rfl, g, w, hg, hb⟩⟩, rfl⟩
      · intro _ R _ _ id _
        rw [put_ob]; exact ⟨rfl, rfl⟩
    · cases h

theorem runT_slot : ∀ {l : List SOper} {st st' : St} {ex : Ex} {T : List Nat}, runT Γ l st = some (ex, st', T) → ∀ n, (∀ p ∈ l, p.dst ≠ some n) → st'.slot n = st.slot n
  | [], st, st', ex, T, h, n, _ => by
    simp only [runT, Option.some.injEq, Prod.mk.injEq] at h
    rw [h.2.1]
  | o :: l, st, st', ex, T, h, n, hn => by
    simp only [runT] at h
    obtain ⟨⟨e1, s1, T1⟩, h1, h⟩ := bind_some h
    obtain ⟨hs, hor, _, _⟩ := exec_spec h1
    have hd : o.dst ≠ some n := hn o (by simp)
    rcases hor with rfl | ⟨x, rfl⟩
    · obtain ⟨⟨e2, s2, T2⟩, h2, e⟩ := map_some h
      simp only [Prod.mk.injEq] at e
      obtain ⟨rfl, rfl, rfl⟩ := e
      rw [runT_slot h2 n fun p hp => hn p (by simp [hp]), step_slot hs hd]
    · simp only [Option.some.injEq, Prod.mk.injEq] at h
      obtain ⟨rfl, rfl, rfl⟩ := h
      -- a panic keeps the slots
      unfold step at hs
      have go : ∀ y, (eval Γ st.ob (o.dst.getD 0) o.op (o.args.map st.get)).map (fun
            | .val a us => (Ex.normal, ({ st with ob := updAll st.ob us } : St).put o.dst a)
            | .pan x us => (.panic x, { st with ob := updAll st.ob us })) = some y → y = (.panic x, s1) → s1.slot n = st.slot n := by
        intro y hy e
        obtain ⟨out, _, hy⟩ := map_some hy
        subst e
        cases out with
        | val a us => simp at hy
        | pan z us => simp only [Prod.mk.injEq] at hy; rw [← hy.2]
      cases hg : o.guard with
      | none => rw [hg] at hs; exact go _ hs rfl
      | some gw =>
        obtain ⟨g, w⟩ := gw
        rw [hg] at hs
        simp only at hs
        split at hs
        · exact go _ hs rfl
        · simp at hs
        · cases hs

def endsAs (ex : Ex) (st' : St) : Ex × St → Prop
  | (.normal, s) => ex = .normal ∧ s = st'
  | (.panic x, s) => ex = .panic x ∧ s.ob = st'.ob
  | _ => False

theorem ite_some {α : Type} {c : Bool} {x y : α} (h : (if c = true then some x else none) = some y) : c = true ∧ x = y := by
  cases c
  · cases h
  · simp only [if_true, Option.some.injEq] at h; exact ⟨rfl, h⟩

theorem anyS_plan {ops : Array Oper} {N : Nat} {R : List Nat} : ∀ (fuel : Nat) (listed : Array Bool) {l : List SOper} {wt : List Nat} {st st' : St} {ex : Ex} {T : List Nat},
    planGo P ops N fuel listed = some (l, wt) → Closed ops listed → runT Γ l st = some (ex, st', T) → (∀ n ∈ wt, ∀ id ∈ refs (st'.slot n), id ∈ R) → (∀ id ∈ T, id ∉ R) →
    anyS P Γ ops N R (endsAs ex st') fuel listed st
  | 0, listed, l, wt, st, st', ex, T, hp, hcl, hr, hw, hT => by
    simp only [planGo] at hp
    split at hp
    · rename_i he
      simp only [Option.some.injEq, Prod.mk.injEq] at hp
      obtain ⟨rfl, rfl⟩ := hp
      simp only [runT, Option.some.injEq, Prod.mk.injEq] at hr
      obtain ⟨rfl, rfl, rfl⟩ := hr
      exact ⟨by simpa using he, rfl, rfl⟩
    · cases hp
  | fuel + 1, listed, l, wt, st, st', ex, T, hp, hcl, hr, hw, hT => by
    simp only [planGo] at hp
    split at hp
    · split at hp
      · rename_i he
        simp only [Option.some.injEq, Prod.mk.injEq] at hp
        obtain ⟨rfl, rfl⟩ := hp
        simp only [runT, Option.some.injEq, Prod.mk.injEq] at hr
        obtain ⟨rfl, rfl, rfl⟩ := hr
        have he' : Region.ready .any ops listed = [] := by simpa using he
        exact ⟨fun _ => ⟨rfl, rfl⟩, fun i hi => by rw [he'] at hi; cases hi⟩
      · cases hp
    · rename_i i hpick
      obtain ⟨o, ho, hp⟩ := bind_some hp
      obtain ⟨⟨rest, wr⟩, hrest, hp⟩ := bind_some hp
      obtain ⟨hcond, hp⟩ := ite_some hp
      · simp only [Prod.mk.injEq] at hp
        obtain ⟨rfl, rfl⟩ := hp
        simp only [Bool.and_eq_true] at hcond
        obtain ⟨hir, hcond⟩ := hcond
        have hir' : i ∈ Region.ready .any ops listed := by
          obtain ⟨k, hk, hke⟩ := List.any_eq_true.1 hir
          rw [← beq_iff_eq.1 hke]; exact hk
        simp only [runT] at hr
        obtain ⟨⟨e1, s1, T1⟩, hex, hr⟩ := bind_some hr
        obtain ⟨hs, hor, hquiet, heff⟩ := exec_spec hex
        cases hq : o.op.quiet with
        | true =>
          obtain ⟨a, rfl, rfl, hputs, rfl⟩ := hquiet hq
          simp only at hr
          obtain ⟨⟨e2, s2, T2⟩, h2, e⟩ := map_some hr
          simp only [List.nil_append, Prod.mk.injEq] at e
          obtain ⟨rfl, rfl, rfl⟩ := e
          rw [if_pos hq] at hcond
          simp only [hq, if_true] at hw
          simp only [Bool.and_eq_true] at hcond
          obtain ⟨⟨hflat, hfree⟩, hwatch⟩ := hcond
          have IH := anyS_plan fuel (listed.setIfInBounds i true) hrest (hcl.set hir') h2 (fun n hn => hw n (List.mem_append.2 (.inr hn))) hT
          refine anyS_first ho hq ?_ ?_ fuel listed st ?_ hcl hir' hputs IH
          · intro b hb
            have := List.all_eq_true.1 hflat _ hb
            cases b <;> simp [constRefs] at this <;> rfl
          · rintro x s s' he ⟨h1, h2⟩
            exact ⟨h1, by rw [← he]; exact h2⟩
          · intro j hji hun hno sj hsj
            obtain ⟨oj, hoj, _⟩ := bind_some hsj
            have hjlt : j < ops.size := (Array.getElem?_eq_some_iff.1 hoj).1
            have q := List.all_eq_true.1 hfree j (List.mem_range.2 hjlt)
            have hno' : deps ops ops.size j i = false := hno
            have hji' : (j == i) = false := by simpa using hji
            simp only [hun, hji', hno', Bool.false_or, hsj, Option.any_some] at q
            refine ⟨q, ?_⟩
            intro hlk hsq n hn id hid
            have hin : n ∈ watchOf P ops N listed i o := by
              unfold watchOf
              rw [if_pos]
              · exact hn
              · rw [hlk, Bool.true_and, List.any_eq_true]
                refine ⟨j, List.mem_range.2 hjlt, ?_⟩
                simp only [hun, hji', hno', hsj, Option.any_some, hsq, Bool.not_false, Bool.and_self]
            have q2 := List.all_eq_true.1 hwatch n hin
            simp only [Bool.and_eq_true, Bool.not_eq_true', beq_eq_false_iff_ne, ne_eq, List.all_eq_true] at q2
            refine hw n (List.mem_append.2 (.inl hin)) id ?_
            have e1 := runT_slot h2 n (fun p hp => q2.2 p hp)
            have e2 : (st.put o.dst a).slot n = st.slot n := step_slot hputs.1 q2.1
            rw [e1, e2]; exact hid
        | false =>
          rw [if_neg (by rw [hq]; simp)] at hcond
          have honly : ∀ j ∈ Region.ready .any ops listed, j = i := fun j hj => by
            have := List.all_eq_true.1 hcond j hj
            simpa using this
          refine ⟨fun h0 => (by rw [h0] at hir'; cases hir'), fun j hj => ?_⟩
          have := honly j hj
          subst this
          rcases hor with rfl | ⟨x, rfl⟩
          · simp only at hr
            obtain ⟨⟨e2, s2, T2⟩, h2, e⟩ := map_some hr
            simp only [Prod.mk.injEq] at e
            obtain ⟨rfl, rfl, rfl⟩ := e
            have IH := anyS_plan fuel (listed.setIfInBounds j true) hrest (hcl.set hir') h2 (fun n hn => hw n (List.mem_append.2 (.inr hn))) (fun id hid => hT id (List.mem_append.2 (.inr hid)))
            exact ⟨o, ho, .normal, s1, hs, fun _ => ⟨IH, fun h => (by rw [hq] at h; cases h), fun h => heff h R (fun id hid => hT id (List.mem_append.2 (.inl hid))) rfl⟩, (fun x e => by cases e), .inl rfl⟩
          · simp only [Option.some.injEq, Prod.mk.injEq] at hr
            obtain ⟨rfl, rfl, rfl⟩ := hr
            exact ⟨o, ho, .panic x, s1, hs, (fun e => by cases e), (fun y e => by cases e; exact ⟨rfl, rfl⟩), .inr ⟨x, rfl⟩⟩

theorem Inv.drawn {st : St} {S : Nat → Nat} {hd : Nat → Value} {role : Nat → Option Nat} {act : Act} {w : World} (h : Inv F st S hd role act w) (k : Nat) :
    Inv F st S hd role act { w with drawn := k } := by
  have hle : Le ⟨S, w, hd, st.ob⟩ ⟨S, { w with drawn := k }, hd, st.ob⟩ := ⟨fun b o v a c => ⟨a, c⟩, fun _ => Nat.le_refl _, fun _ _ => ⟨rfl, rfl, rfl⟩⟩
  exact ⟨h.num, h.dfr, fun n => R.mono hle _ _ (h.slots n), fun id => (h.obs id).keep hle id rfl rfl (fun b hb _ => ⟨rfl, rfl, hb⟩), h.os, h.tape, h.output, h.size, h.heap, h.role, h.par⟩

theorem drawsAll (hm : P.follows .mixedOrders = true) (hΓ : SoundAll P Γ) : DrawsAll P Γ := by
  intro F ps hps id ops live watch sops n st st' ex S hd role act w hplan hrun hI
  simp only [run] at hrun
  obtain ⟨⟨e1, s1, T⟩, h1, hrun⟩ := bind_some hrun
  have noclash : clash s1 watch T = false → (∀ id ∈ T, id ∉ watch.flatMap fun n => refs (s1.slot n)) := by
    intro hc i hi hm
    obtain ⟨n, hn, hin⟩ := List.mem_flatMap.1 hm
    unfold clash at hc
    rw [List.any_eq_false] at hc
    refine hc n hn ?_
    rw [List.any_eq_true]
    exact ⟨i, hin, List.any_eq_true.2 ⟨i, hi, by simp⟩⟩
  have main : clash s1 watch T = false → anyS P Γ ops F.N (watch.flatMap fun n => refs (s1.slot n)) (endsAs e1 s1) ops.size (Array.replicate ops.size false) st := fun hc =>
    anyS_plan ops.size _ hplan (fun k o hk => by rw [Array.getD_eq_getD_getElem?] at hk; rcases Nat.lt_or_ge k ops.size with h' | h' <;> simp [h'] at hk) h1 (fun n hn i hi => List.mem_flatMap.2 ⟨n, hn, hi⟩) (noclash hc)
  cases e1 with
  | normal =>
    simp only at hrun
    split at hrun
    · cases hrun
    · rename_i hc
      simp only [Option.some.injEq, Prod.mk.injEq] at hrun
      obtain ⟨rfl, rfl⟩ := hrun
      refine wp_region_any hm (any_sound hΓ ?_ ?_ _ _ _ _ _ (main (by simpa using hc)) ⟨S, hd, role, hI.drawn _, rfl⟩)
      · rintro s ⟨_, rfl⟩ a w' ⟨S', hd', role', hI', _⟩
        exact ⟨S', hd', role', hI'.only live, rfl⟩
      · rintro x s ⟨h, _⟩; cases h
  | panic x =>
    simp only at hrun
    split at hrun
    · cases hrun
    · rename_i hc
      simp only [Option.some.injEq, Prod.mk.injEq] at hrun
      obtain ⟨rfl, rfl⟩ := hrun
      refine wp_region_any hm (any_sound hΓ ?_ ?_ _ _ _ _ _ (main (by simpa using hc)) ⟨S, hd, role, hI.drawn _, rfl⟩)
      · rintro s ⟨h, _⟩; cases h
      · rintro y s ⟨h, hob⟩ e a w' ⟨S', hd', role', hI', v, he, hv⟩
        cases h
        have hforget : s.forget ps = s1.forget ps := by unfold St.forget; rw [hob]
        obtain ⟨S2, hI2, hstab⟩ := hI'.forget hps
        rw [hforget] at hI2
        exact ⟨S2, hd', role', hI2, v, he, RD.mono hstab _ _ hv⟩
  | exit i =>
    have := main
    simp only at hrun
    split at hrun
    · cases hrun
    · rename_i hc
      refine wp_region_any hm (any_sound hΓ ?_ ?_ _ _ _ _ _ (main (by simpa using hc)) ⟨S, hd, role, hI.drawn _, rfl⟩)
      · rintro s ⟨h, _⟩; cases h
      · rintro x s ⟨h, _⟩; cases h
  | ret =>
    simp only at hrun
    split at hrun
    · cases hrun
    · rename_i hc
      refine wp_region_any hm (any_sound hΓ ?_ ?_ _ _ _ _ _ (main (by simpa using hc)) ⟨S, hd, role, hI.drawn _, rfl⟩)
      · rintro s ⟨h, _⟩; cases h
      · rintro x s ⟨h, _⟩; cases h
end
end Go.Vm
