/- What an operation looks at and changes: the objects that its arguments lead to, and its own. -/
import Derived.Test.YtafjdofgafppgaaDoorVmDraw2
set_option linter.unusedVariables false
set_option linter.unusedSectionVars false
set_option linter.unusedSimpArgs false
namespace Go.Vm
variable [Gl]

section
variable {ob : Nat → Ob} {id : Nat} {x : Ob}

theorem boxAt_f {i v : Nat} (h : i ≠ id) : boxAt (upd ob id x) i v = boxAt ob i v := by unfold boxAt; rw [upd_ne _ _ h]
theorem rowAt_f {i v : Nat} (h : i ≠ id) : rowAt (upd ob id x) i v = rowAt ob i v := by unfold rowAt; rw [upd_ne _ _ h]
theorem resAt_f {i v : Nat} (h : i ≠ id) : resAt (upd ob id x) i v = resAt ob i v := by unfold resAt; rw [upd_ne _ _ h]
theorem refsDs_mem {a : A} {as : List A} (h : a ∈ as) {i : Nat} (hi : i ∈ refsD a) : i ∈ refsDs as := by
  induction as with
  | nil => cases h
  | cons b as ih =>
    simp only [refsDs, List.mem_append]
    rcases List.mem_cons.1 h with rfl | h
    · exact .inl hi
    · exact .inr (ih h)
theorem snap_f {a : A} (h : id ∉ refsD a) : snap (upd ob id x) a = snap ob a := by
  cases a with
  | row i v =>
    have : i ≠ id := by rintro rfl; exact h (by simp [refsD])
    simp only [snap, upd_ne _ _ this]
  | _ => rfl
theorem snap_ids {a : A} {y : D} {ls : List Nat} (h : snap ob a = some (y, ls)) : ∀ i ∈ ls, i ∈ refsD a := by
  cases a with
  | row i v =>
    simp only [snap] at h
    split at h
    · split at h
      · simp only [Option.some.injEq, Prod.mk.injEq] at h
        obtain ⟨_, rfl⟩ := h
        simp [refsD]
      · cases h
    · cases h
  | d y => simp only [snap, Option.some.injEq, Prod.mk.injEq] at h; obtain ⟨_, rfl⟩ := h; simp
  | nil => simp only [snap, Option.some.injEq, Prod.mk.injEq] at h; obtain ⟨_, rfl⟩ := h; simp
  | _ => simp [snap] at h
theorem snaps_f : ∀ {as : List A}, id ∉ refsDs as → snaps (upd ob id x) as = snaps ob as
  | [], _ => rfl
  | a :: as, h => by
    simp only [refsDs, List.mem_append, not_or] at h
    simp only [snaps, snap_f h.1, snaps_f h.2]
theorem snaps_ids : ∀ {as : List A} {ys : List D} {ls : List Nat}, snaps ob as = some (ys, ls) → ∀ i ∈ ls, i ∈ refsDs as
  | [], ys, ls, h => by simp only [snaps, Option.some.injEq, Prod.mk.injEq] at h; obtain ⟨_, rfl⟩ := h; simp
  | a :: as, ys, ls, h => by
    simp only [snaps] at h
    obtain ⟨⟨y, l⟩, h1, h⟩ := bind_some h
    obtain ⟨⟨zs, l'⟩, h2, h⟩ := map_some h
    simp only [Prod.mk.injEq] at h
    obtain ⟨_, rfl⟩ := h
    intro i hi
    simp only [refsDs, List.mem_append]
    rcases List.mem_append.1 hi with hi | hi
    · exact .inl (snap_ids h1 i hi)
    · exact .inr (snaps_ids h2 i hi)
theorem leaks_f : ∀ {ls : List Nat}, id ∉ ls → leaks (upd ob id x) ls = leaks ob ls
  | [], _ => rfl
  | i :: ls, h => by
    simp only [List.mem_cons, not_or] at h
    have := leaks_f (ls := ls) h.2
    unfold leaks at this ⊢
    simp only [List.map_cons, this, upd_ne _ _ (Ne.symm h.1)]
theorem leaks_ids {ls : List Nat} : (leaks ob ls).map (·.1) = ls := by unfold leaks; rw [List.map_map]; exact List.map_id' ls
theorem cellsOf_refs {a : A} : ∀ i ∈ refsDs (cellsOf a), i ∈ refsD a := by
  intro i hi
  cases a <;> first | (simp only [cellsOf, refsDs, List.append_nil] at hi; exact hi) | (simp only [cellsOf] at hi; simp only [refsD]; exact hi)
theorem refsDs_append {as bs : List A} {i : Nat} : i ∈ refsDs (as ++ bs) ↔ i ∈ refsDs as ∨ i ∈ refsDs bs := by
  induction as with
  | nil => simp [refsDs]
  | cons a as ih => simp [refsDs, ih, or_assoc]
theorem flatCells_refs : ∀ {as : List A}, ∀ i ∈ refsDs (as.flatMap cellsOf), i ∈ refsDs as
  | [], i, h => h
  | a :: as, i, h => by
    rw [List.flatMap_cons] at h
    simp only [refsDs, List.mem_append]
    rcases refsDs_append.1 h with h | h
    · exact .inl (cellsOf_refs i h)
    · exact .inr (flatCells_refs i h)
mutual
theorem toX_f (m : Bool) : ∀ (a : A), id ∉ refsD a → toX m (upd ob id x) a = toX m ob a
  | .row i v, h => by
    have : i ≠ id := by rintro rfl; exact h (by simp [refsD])
    simp only [toX, upd_ne _ _ this]
  | .adr i v o, h => by
    have : i ≠ id := by rintro rfl; exact h (by simp [refsD])
    simp only [toX, upd_ne _ _ this]
  | .agg cs, h => by
    simp only [toX, toXs_f m cs (by simpa [refsD] using h)]
  | .d _, _ => rfl
  | .nil, _ => rfl
  | .undef, _ => rfl
  | .rad .., _ => rfl
  | .vw .., _ => rfl
  | .cp _, _ => rfl
  | .tup _, _ => rfl
theorem toXs_f (m : Bool) : ∀ (as : List A), id ∉ refsDs as → toXs m (upd ob id x) as = toXs m ob as
  | [], _ => rfl
  | a :: as, h => by
    simp only [refsDs, List.mem_append, not_or] at h
    simp only [toXs, toX_f m a h.1, toXs_f m as h.2]
end
mutual
theorem toX_ids (m : Bool) : ∀ (a : A) {y : X} {ls ms : List Nat}, toX m ob a = some (y, ls, ms) → ∀ i ∈ ls ++ ms, i ∈ refsD a
  | .row i v, y, ls, ms, h => by
    simp only [toX] at h
    split at h
    · split at h
      · cases m with
        | false =>
          simp only [Bool.false_eq_true, if_false, Option.some.injEq, Prod.mk.injEq] at h
          obtain ⟨_, rfl, rfl⟩ := h
          simp [refsD]
        | true =>
          simp only [if_true] at h
          split at h
          · simp only [Option.some.injEq, Prod.mk.injEq] at h
            obtain ⟨_, rfl, rfl⟩ := h
            simp [refsD]
          · cases h
      · cases h
    · split at h
      · simp only [Option.some.injEq, Prod.mk.injEq] at h
        obtain ⟨_, rfl, rfl⟩ := h
        simp [refsD]
      · cases h
    · cases h
  | .adr i v o, y, ls, ms, h => by
    simp only [toX] at h
    split at h
    · split at h
      · obtain ⟨_, _, h⟩ := map_some h
        simp only [Prod.mk.injEq] at h
        obtain ⟨_, rfl, rfl⟩ := h
        simp [refsD]
      · cases h
    · cases h
  | .agg cs, y, ls, ms, h => by
    simp only [toX] at h
    obtain ⟨⟨xs, l, k⟩, h1, h⟩ := map_some h
    simp only [Prod.mk.injEq] at h
    obtain ⟨_, rfl, rfl⟩ := h
    simp only [refsD]
    exact toXs_ids m cs h1
  | .d _, y, ls, ms, h => by simp only [toX, Option.some.injEq, Prod.mk.injEq] at h; obtain ⟨_, rfl, rfl⟩ := h; simp
  | .nil, y, ls, ms, h => by simp only [toX, Option.some.injEq, Prod.mk.injEq] at h; obtain ⟨_, rfl, rfl⟩ := h; simp
  | .undef, _, _, _, h => by simp [toX] at h
  | .rad .., _, _, _, h => by simp [toX] at h
  | .cp _, _, _, _, h => by simp [toX] at h
  | .tup _, _, _, _, h => by simp [toX] at h
theorem toXs_ids (m : Bool) : ∀ (as : List A) {ys : List X} {ls ms : List Nat}, toXs m ob as = some (ys, ls, ms) → ∀ i ∈ ls ++ ms, i ∈ refsDs as
  | [], ys, ls, ms, h => by simp only [toXs, Option.some.injEq, Prod.mk.injEq] at h; obtain ⟨_, rfl, rfl⟩ := h; simp
  | a :: as, ys, ls, ms, h => by
    simp only [toXs] at h
    obtain ⟨⟨y, l, k⟩, h1, h⟩ := bind_some h
    obtain ⟨⟨zs, l', k'⟩, h2, h⟩ := map_some h
    simp only [Prod.mk.injEq] at h
    obtain ⟨_, rfl, rfl⟩ := h
    intro i hi
    simp only [refsDs, List.mem_append]
    have p := toX_ids m a h1 i
    have q := toXs_ids m as h2 i
    simp only [List.mem_append] at hi p q
    rcases hi with (hi | hi) | (hi | hi)
    · exact .inl (p (.inl hi))
    · exact .inr (q (.inl hi))
    · exact .inl (p (.inr hi))
    · exact .inr (q (.inr hi))
end
mutual
theorem ofX_f (d : Nat) : ∀ (y : X) (j : Nat), id ∉ (ofX (upd ob id x) d y j).2.1.map (·.1) → ofX (upd ob id x) d y j = ofX ob d y j
  | .d _, _, _ => rfl
  | .par _, _, _ => rfl
  | .nil, _, _ => rfl
  | .own e s n c cells lk, j, h => by
    simp only [ofX, List.map_cons, List.map_nil, List.mem_singleton] at h
    simp only [ofX, upd_ne _ _ (Ne.symm h)]
  | .res k z, j, h => by
    simp only [ofX, List.map_cons, List.map_nil, List.mem_singleton] at h
    simp only [ofX, upd_ne _ _ (Ne.symm h)]
  | .box xs, j, h => by
    simp only [ofX, List.map_append, List.mem_append, not_or, renew, List.map_cons, List.map_nil, List.mem_singleton] at h
    simp only [ofX, ofXs_f d xs (j + 1) h.1, renew, upd_ne _ _ (Ne.symm h.2)]
  | .agg xs, j, h => by
    simp only [ofX] at h
    simp only [ofX, ofXs_f d xs j h]
  | .tup xs, j, h => by
    simp only [ofX] at h
    simp only [ofX, ofXs_f d xs j h]
theorem ofXs_f (d : Nat) : ∀ (ys : List X) (j : Nat), id ∉ (ofXs (upd ob id x) d ys j).2.1.map (·.1) → ofXs (upd ob id x) d ys j = ofXs ob d ys j
  | [], _, _ => rfl
  | y :: ys, j, h => by
    simp only [ofXs, List.map_append, List.mem_append, not_or] at h
    have e1 := ofX_f d y j h.1
    have e2 := ofXs_f d ys (ofX (upd ob id x) d y j).2.2 h.2
    simp only [ofXs, e1] at e2 ⊢
    rw [e2]
end
mutual
theorem parA_f {ms : List Nat} (hm : id ∉ ms) : ∀ (y : X) (a : A), parA (upd ob id x) ms y a = parA ob ms y a
  | .par k, a => by
    simp only [parA]
    cases h : ms[k]? with
    | none => rfl
    | some i =>
      have : i ≠ id := by rintro rfl; exact hm (List.mem_of_getElem? h)
      simp only [upd_ne _ _ this]
  | .agg xs, .agg as => by simp only [parA, parAs_f hm xs as]
  | .tup xs, .tup as => by simp only [parA, parAs_f hm xs as]
  | .d _, a => by cases a <;> rfl
  | .nil, a => by cases a <;> rfl
  | .own .., a => by cases a <;> rfl
  | .box _, a => by cases a <;> rfl
  | .res _ _, a => by cases a <;> rfl
  | .agg xs, .undef => rfl
  | .agg xs, .d _ => rfl
  | .agg xs, .nil => rfl
  | .agg xs, .row .. => rfl
  | .agg xs, .adr .. => rfl
  | .agg xs, .rad .. => rfl
  | .agg xs, .vw .. => rfl
  | .agg xs, .cp _ => rfl
  | .agg xs, .tup _ => rfl
  | .tup xs, .undef => rfl
  | .tup xs, .d _ => rfl
  | .tup xs, .nil => rfl
  | .tup xs, .row .. => rfl
  | .tup xs, .adr .. => rfl
  | .tup xs, .rad .. => rfl
  | .tup xs, .vw .. => rfl
  | .tup xs, .cp _ => rfl
  | .tup xs, .agg _ => rfl
theorem parAs_f {ms : List Nat} (hm : id ∉ ms) : ∀ (ys : List X) (as : List A), parAs (upd ob id x) ms ys as = parAs ob ms ys as
  | [], as => by cases as <;> rfl
  | _ :: _, [] => rfl
  | y :: ys, a :: as => by simp only [parAs, parA_f hm y a, parAs_f hm ys as]
end
theorem backs_f : ∀ {ms : List Nat} {outs : List (List D)}, id ∉ ms → backs (upd ob id x) ms outs = backs ob ms outs
  | [], [], _ => rfl
  | [], _ :: _, _ => rfl
  | _ :: _, [], _ => rfl
  | i :: ms, ds :: outs, h => by
    simp only [List.mem_cons, not_or] at h
    simp only [backs, upd_ne _ _ (Ne.symm h.1), backs_f h.2]
end
section
variable {ob : Nat → Ob} {id : Nat} {x : Ob}
theorem mk_f {d : Nat} {o : O} {out : Out} (h : mk (upd ob id x) d [] o = some out) (hu : id ∉ (usOf out).map (·.1)) : mk ob d [] o = some out := by
  have hne : oid d 0 ≠ id := by
    rintro rfl
    unfold mk at h
    simp only [Option.some.injEq] at h
    subst h
    exact hu (by simp [usOf, renew])
  unfold mk renew at h ⊢
  rw [upd_ne _ _ hne] at h
  exact h
theorem doCall_f {Γ : Ctx} {d : Nat} {f : FuncId} {as : List A} {out : Out} (h : doCall Γ (upd ob id x) d f as = some out) (hn : id ∉ refsDs as) (hu : id ∉ (usOf out).map (·.1)) : doCall Γ ob d f as = some out := by
  unfold doCall at h ⊢
  rw [toXs_f _ as hn] at h
  obtain ⟨⟨xs, ls, ms⟩, hx, h⟩ := bind_some h
  have hids := toXs_ids _ as hx
  have hl : id ∉ ls := fun hm => hn (hids id (List.mem_append.2 (.inl hm)))
  have hm : id ∉ ms := fun hm => hn (hids id (List.mem_append.2 (.inr hm)))
  rw [hx]
  simp only [Option.bind_some] at h ⊢
  split at h
  · rename_i hc
    rw [if_pos hc]
    obtain ⟨xo, hF, h⟩ := bind_some h
    rw [hF]
    simp only [Option.bind_some]
    cases xo with
    | ret y outs =>
      simp only [backs_f hm, leaks_f hl] at h ⊢
      obtain ⟨bs, hb, h⟩ := map_some h
      rw [hb]
      subst h
      simp only [usOf, List.map_append, List.mem_append, not_or] at hu
      have hbm : id ∉ bs.map (·.1) := by rw [backs_ids hb]; exact hm
      have e : updAll (upd ob id x) bs = upd (updAll ob bs) id x := updAll_upd bs ob hbm
      rw [e] at hu ⊢
      simp only [Option.map_some, ofX_f d y 0 hu.2.2, parA_f hm]
    | pan y outs =>
      simp only [backs_f hm, leaks_f hl] at h ⊢
      exact h
  · cases h
theorem evSlc_f {st : Bool} {sz : Nat} {lo hi : Bool} {as : List A} {out : Out} (h : evSlc (upd ob id x) st sz lo hi as = some out) (hn : id ∉ refsDs as) : evSlc ob st sz lo hi as = some out := by
  have hne : ∀ {a : A} {i : Nat}, a ∈ as → i ∈ refsD a → i ≠ id := by
    rintro a i ha hi rfl
    exact hn (refsDs_mem ha hi)
  simp only [evSlc] at h ⊢
  split at h
  · exact h
  · exact h
  · rename_i i v bs
    have e := hne (a := .row i v) (i := i) List.mem_cons_self (by simp [refsD])
    rw [rowAt_f e, leaks_f (by simpa using Ne.symm e)] at h; exact h
  · cases h
/-- an operation that has nothing to do with an object does as if that were not there -/
theorem eval_f {Γ : Ctx} {d : Nat} {op : SOp} {as : List A} {out : Out} (h : eval Γ (upd ob id x) d op as = some out) (hn : id ∉ refsDs as) (hu : id ∉ (usOf out).map (·.1)) : eval Γ ob d op as = some out := by
  have hne : ∀ {a : A} {i : Nat}, a ∈ as → i ∈ refsD a → i ≠ id := by
    rintro a i ha hi rfl
    exact hn (refsDs_mem ha hi)
  cases op with
  | mv => exact h
  | pick => exact h
  | bld => exact h
  | bin => exact h
  | beq => exact h
  | neg => exact h
  | not => exact h
  | cvt => exact h
  | shr => exact h
  | s2b => exact h
  | mkI t =>
    simp only [eval] at h ⊢
    split at h
    · exact h
    · rename_i cs
      have e2 : id ∉ refsDs cs := fun hm => hn (refsDs_mem (a := .agg cs) (by simp) (by simpa [refsD] using hm))
      rw [snaps_f e2] at h
      obtain ⟨⟨xs, ls⟩, hs, h⟩ := bind_some h
      have hl : id ∉ ls := fun hm => e2 (snaps_ids hs id hm)
      rw [hs]
      simp only [Option.bind_some, leaks_f hl] at h ⊢; exact h
    · cases h
  | mkR k =>
    simp only [eval] at h ⊢
    split at h <;> first | exact mk_f h hu | cases h
  | mget t kc n z wo =>
    simp only [eval, evMget] at h ⊢
    split at h
    · rw [resAt_f (hne List.mem_cons_self (by simp [refsD]))] at h; exact h
    · cases h
  | mlen =>
    simp only [eval, evMlen] at h ⊢
    split at h
    · rw [resAt_f (hne List.mem_cons_self (by simp [refsD]))] at h; exact h
    · cases h
  | vws s =>
    simp only [eval, evVws] at h ⊢
    split at h
    · rw [rowAt_f (hne List.mem_cons_self (by simp [refsD]))] at h; exact h
    · cases h
  | clr z =>
    simp only [eval, evClr] at h ⊢
    split at h
    · rename_i i v lo sz
      have e := hne (a := .vw i v lo sz) (i := i) List.mem_cons_self (by simp [refsD])
      rw [rowAt_f e, upd_ne _ _ e] at h; exact h
    · cases h
  | mset t kc n =>
    simp only [eval, evMset] at h ⊢
    split at h
    · rename_i i v k a
      have e := hne (a := .row i v) (i := i) List.mem_cons_self (by simp [refsD])
      have e2 : id ∉ refsDs (cellsOf a) := fun hm => hn (refsDs_mem (a := a) (by simp) (cellsOf_refs id hm))
      rw [resAt_f e, snaps_f e2] at h
      obtain ⟨q, hq, h⟩ := bind_some h
      rw [hq]
      simp only [Option.bind_some] at h ⊢
      split at h
      · rename_i hc
        rw [if_pos hc]
        obtain ⟨p, hp, h⟩ := bind_some h
        obtain ⟨⟨xs, ls⟩, hs, h⟩ := bind_some h
        have hl : id ∉ ls := fun hm => e2 (snaps_ids hs id hm)
        rw [hp, hs]
        simp only [Option.bind_some, leaks_f hl] at h ⊢; exact h
      · cases h
    · cases h
  | mkF => exact h
  | fld off n => cases n <;> exact h
  | ixs => exact h
  | ext => exact h
  | mm => exact h
  | pan => exact h
  | inil => exact h
  | snil => exact h
  | seq => exact h
  | ta => exact h
  | ixa n sz m => cases m <;> exact h
  | ld n =>
    cases n with
    | none =>
      simp only [eval, evLd1] at h ⊢
      split at h
      · rw [boxAt_f (hne (List.mem_singleton.2 rfl) (by simp [refsD]))] at h; exact h
      · rw [rowAt_f (hne (List.mem_singleton.2 rfl) (by simp [refsD]))] at h; exact h
      · exact h
      · cases h
    | some n =>
      simp only [eval, evLdN] at h ⊢
      split at h
      · rw [boxAt_f (hne (List.mem_singleton.2 rfl) (by simp [refsD]))] at h; exact h
      · rw [rowAt_f (hne (List.mem_singleton.2 rfl) (by simp [refsD]))] at h; exact h
      · exact h
      · cases h
  | nilck =>
    simp only [eval] at h ⊢
    split at h
    · rw [boxAt_f (hne (List.mem_singleton.2 rfl) (by simp [refsD]))] at h; exact h
    · rw [resAt_f (hne (List.mem_singleton.2 rfl) (by simp [refsD]))] at h; exact h
    · cases h
  | fa off =>
    simp only [eval, evFa] at h ⊢
    split at h
    · rw [boxAt_f (hne (List.mem_singleton.2 rfl) (by simp [refsD]))] at h; exact h
    · rw [rowAt_f (hne (List.mem_singleton.2 rfl) (by simp [refsD]))] at h; exact h
    · exact h
    · rw [resAt_f (hne (List.mem_singleton.2 rfl) (by simp [refsD]))] at h; exact h
    · cases h
  | ia s =>
    simp only [eval, evIa] at h ⊢
    split at h
    · exact h
    · rw [rowAt_f (hne List.mem_cons_self (by simp [refsD]))] at h; exact h
    · cases h
  | iaa n s =>
    simp only [eval, evIaa] at h ⊢
    split at h
    · rw [boxAt_f (hne List.mem_cons_self (by simp [refsD]))] at h; exact h
    · rw [rowAt_f (hne List.mem_cons_self (by simp [refsD]))] at h; exact h
    · exact h
    · cases h
  | len s =>
    simp only [eval, evLen] at h ⊢
    split at h
    · exact h
    · exact h
    · exact h
    · rw [rowAt_f (hne (List.mem_singleton.2 rfl) (by simp [refsD]))] at h; exact h
    · cases h
  | cap =>
    simp only [eval, evCap] at h ⊢
    split at h
    · exact h
    · rw [rowAt_f (hne (List.mem_singleton.2 rfl) (by simp [refsD]))] at h; exact h
    · cases h
  | slc st sz lo hi => exact evSlc_f h hn
  | b2s =>
    simp only [eval] at h ⊢
    split at h
    · rename_i a
      rw [snap_f (by intro hi; exact hn (by simpa [refsDs] using hi))] at h; exact h
    · cases h
  | alloc cells =>
    simp only [eval] at h ⊢
    split at h
    · split at h
      · rename_i hc
        rw [if_pos hc]; exact mk_f h hu
      · cases h
    · cases h
  | box =>
    simp only [eval] at h ⊢
    split at h
    · split at h
      · rename_i hc
        rw [if_pos hc]; exact mk_f h hu
      · cases h
    · cases h
  | mkS e sz b z =>
    simp only [eval] at h ⊢
    split at h
    · split at h
      · rename_i hc
        rw [if_pos hc]; exact mk_f h hu
      · cases h
    · cases h
  | st n =>
    simp only [eval, evSt] at h ⊢
    split at h
    · rename_i i v o a
      have e := hne (a := .adr i v o) (i := i) List.mem_cons_self (by simp [refsD])
      rw [boxAt_f e, upd_ne _ _ e] at h; exact h
    · rename_i i v o a
      have e := hne (a := .rad i v o) (i := i) List.mem_cons_self (by simp [refsD])
      have e2 : id ∉ refsDs (cellsOf a) := fun hm => hn (refsDs_mem (a := a) (by simp) (cellsOf_refs id hm))
      rw [rowAt_f e, snaps_f e2, upd_ne _ _ e] at h
      obtain ⟨r, hr, h⟩ := bind_some h
      obtain ⟨⟨xs, ls⟩, hs, h⟩ := bind_some h
      have hl : id ∉ ls := fun hm => e2 (snaps_ids hs id hm)
      rw [hr]
      simp only [Option.bind_some]
      rw [hs]
      simp only [Option.bind_some] at h ⊢
      rw [leaks_f hl] at h
      exact h
    · cases h
  | bldS e size len parts =>
    simp only [eval] at h ⊢
    have e2 : id ∉ refsDs (as.flatMap cellsOf) := fun hm => hn (flatCells_refs id hm)
    rw [snaps_f e2] at h
    split at h
    · rename_i hc
      rw [if_pos hc]
      obtain ⟨⟨xs, ls⟩, hs, h⟩ := bind_some h
      have hl : id ∉ ls := fun hm => e2 (snaps_ids hs id hm)
      rw [hs]
      simp only [Option.bind_some] at h ⊢
      unfold mk at h ⊢
      simp only [Option.some.injEq] at h
      subst h
      rw [leaks_f hl]
      simp only [usOf, leaks_f hl, renew, List.map_append, List.map_cons, List.map_nil, List.mem_append, List.mem_singleton, not_or] at hu
      simp only [renew, upd_ne _ _ (Ne.symm hu.2)]
    · cases h
  | app e size b =>
    simp only [eval, evApp] at h ⊢
    split at h
    · rename_i y
      have e2 : id ∉ refsD y := fun hm => hn (refsDs_mem (a := y) (by simp) hm)
      rw [snap_f e2] at h
      obtain ⟨⟨z, ls⟩, hs, h⟩ := bind_some h
      rw [hs]
      simp only [Option.bind_some] at h ⊢
      obtain ⟨⟨m, xs⟩, hq, h⟩ := bind_some h
      rw [hq]
      simp only [Option.bind_some] at h ⊢
      split at h
      · rename_i hc
        rw [if_pos hc]
        split at h
        · rename_i hm; rw [if_pos hm]; exact h
        · rename_i hm; rw [if_neg hm]; exact mk_f h hu
      · cases h
    · rename_i i v y
      have e1 := hne (a := .row i v) (i := i) List.mem_cons_self (by simp [refsD])
      have e2 : id ∉ refsD y := fun hm => hn (refsDs_mem (a := y) (by simp) hm)
      rw [rowAt_f e1, snap_f e2, upd_ne _ _ e1] at h; exact h
    · cases h
  | appZ e size b z =>
    simp only [eval, evAppZ] at h ⊢
    split at h
    · split at h
      · rename_i hc
        rw [if_pos hc]
        split at h
        · rename_i hm; rw [if_pos hm]; exact h
        · rename_i hm; rw [if_neg hm]; exact mk_f h hu
      · cases h
    · rename_i i v k kk
      have e1 := hne (a := .row i v) (i := i) List.mem_cons_self (by simp [refsD])
      rw [rowAt_f e1, upd_ne _ _ e1] at h; exact h
    · cases h
  | cut s =>
    simp only [eval, evCut] at h ⊢
    split at h
    · exact h
    · rename_i i v k kk
      have e1 := hne (a := .row i v) (i := i) List.mem_cons_self (by simp [refsD])
      rw [upd_ne _ _ e1] at h
      split at h
      · rename_i hl
        rw [if_pos hl]; exact evSlc_f h hn
      · rename_i hl
        rw [if_neg hl]
        rw [rowAt_f e1] at h; exact h
    · exact evSlc_f h hn
  | call f => exact doCall_f h hn hu
  | dyn =>
    simp only [eval] at h ⊢
    split at h
    · rename_i f r
      exact doCall_f h (fun hm => hn (by simp only [refsDs, refsD, List.nil_append]; exact hm)) hu
    · cases h
end

theorem snap_free {ob : Nat → Ob} {a : A} {y : D} (h : snap ob a = some (y, [])) (ob' : Nat → Ob) : snap ob' a = some (y, []) := by
  cases a with
  | row i v =>
    simp only [snap] at h
    split at h
    · split at h
      · simp at h
      · cases h
    · cases h
  | _ => exact h
theorem snaps_free {ob : Nat → Ob} : ∀ {as : List A} {ys : List D}, snaps ob as = some (ys, []) → ∀ ob', snaps ob' as = some (ys, [])
  | [], ys, h, ob' => h
  | a :: as, ys, h, ob' => by
    simp only [snaps] at h ⊢
    obtain ⟨⟨y, l⟩, h1, h⟩ := bind_some h
    obtain ⟨⟨zs, l'⟩, h2, h⟩ := map_some h
    simp only [Prod.mk.injEq, List.append_eq_nil_iff] at h
    obtain ⟨rfl, rfl, rfl⟩ := h
    rw [snap_free h1 ob', snaps_free h2 ob']
    rfl
/-- an operation that makes one object does so in any state -/
theorem maker_same {Γ : Ctx} {ob ob' : Nat → Ob} {d : Nat} {op : SOp} (hm : op.maker = true) {as : List A} {a : A} {i : Nat} {x : Ob} (h : eval Γ ob d op as = some (.val a [(i, x)]))
    (hv : (ob' (oid d 0)).ver = (ob (oid d 0)).ver) : eval Γ ob' d op as = some (.val a [(i, x)]) ∧ i = oid d 0 ∧ x.ver = (ob (oid d 0)).ver + 1 := by
  have hmk : ∀ {o : O}, mk ob d [] o = some (.val a [(i, x)]) → mk ob' d [] o = some (.val a [(i, x)]) ∧ i = oid d 0 ∧ x.ver = (ob (oid d 0)).ver + 1 := by
    intro o h
    unfold mk renew at h ⊢
    simp only [Option.some.injEq, Out.val.injEq, List.nil_append, List.cons.injEq, and_true, Prod.mk.injEq] at h
    obtain ⟨h1, h2, h3⟩ := h
    rw [hv]
    subst h2 h3
    exact ⟨by rw [h1]; rfl, rfl, rfl⟩
  cases op with
  | alloc cells =>
    simp only [eval] at h ⊢
    split at h
    · split at h
      · rename_i hc
        rw [if_pos hc]; exact hmk h
      · cases h
    · cases h
  | box =>
    simp only [eval] at h ⊢
    split at h
    · split at h
      · rename_i hc
        rw [if_pos hc]; exact hmk h
      · cases h
    · cases h
  | mkS e sz b z =>
    simp only [eval] at h ⊢
    split at h
    · split at h
      · rename_i hc
        rw [if_pos hc]; exact hmk h
      · cases h
    · cases h
  | bldS e size len parts =>
    simp only [eval] at h ⊢
    split at h
    · rename_i hc
      rw [if_pos hc]
      obtain ⟨⟨xs, ls⟩, hs, h⟩ := bind_some h
      have hl : ls = [] := by
        unfold mk at h
        simp only [Option.some.injEq, Out.val.injEq] at h
        have := congrArg List.length h.2
        simp only [List.length_append, List.length_cons, List.length_nil, leaks, List.length_map] at this
        exact List.eq_nil_of_length_eq_zero (by omega)
      subst hl
      rw [snaps_free hs ob']
      exact hmk h
    · cases h
  | _ => cases hm
end Go.Vm
