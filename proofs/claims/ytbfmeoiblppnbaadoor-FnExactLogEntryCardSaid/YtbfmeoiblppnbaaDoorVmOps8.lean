/- Each operation of the model does what the abstract machine says: structs and new objects. -/
import Derived.Test.YtbfmeoiblppnbaaDoorVmOpsB
import Derived.Laws.Tables
import Derived.Laws.CopyRow
set_option linter.unusedVariables false
set_option linter.unusedSectionVars false
set_option linter.unusedSimpArgs false
namespace Go.Vm

theorem constAs_R {c : C} : ∀ {vs : List Value} {as : List A}, constAs vs = some as → Rl c as vs
  | [], as, h => by simp only [constAs, Option.some.injEq] at h; subst h; rfl
  | v :: vs, as, h => by
    simp only [constAs, Option.bind_eq_some_iff, Option.map_eq_some_iff] at h
    obtain ⟨a, ha, l, hl, rfl⟩ := h
    exact ⟨v, vs, rfl, constA_R ha, constAs_R hl⟩

theorem foldl_set (off : Nat) : ∀ (vs : List Value) (s : Nat) (arr : Array Value), off + s + vs.length ≤ arr.size →
    ((vs.zipIdx s).foldl (fun cs (x : Value × Nat) => cs.setIfInBounds (off + x.2) x.1) arr).toList = arr.toList.take (off + s) ++ vs ++ arr.toList.drop (off + s + vs.length)
  | [], s, arr, _ => by simp
  | v :: vs, s, arr, h => by
    simp only [List.length_cons] at h
    simp only [List.zipIdx_cons, List.foldl_cons]
    rw [foldl_set off vs (s + 1) _ (by simp; omega)]
    rw [Array.toList_setIfInBounds]
    have hlt : off + s < arr.toList.length := by simp; omega
    rw [List.set_eq_take_append_cons_drop, if_pos hlt]
    have hl0 : (arr.toList.take (off + s)).length = off + s := by rw [List.length_take]; omega
    have e1 : (arr.toList.take (off + s) ++ v :: arr.toList.drop (off + s + 1)).take (off + (s + 1)) = arr.toList.take (off + s) ++ [v] := by
      rw [List.take_append, hl0, List.take_of_length_le (by omega), show off + (s + 1) - (off + s) = 1 from by omega]
      rfl
    have e2 : (arr.toList.take (off + s) ++ v :: arr.toList.drop (off + s + 1)).drop (off + (s + 1) + vs.length) = arr.toList.drop (off + s + (v :: vs).length) := by
      have hl : (arr.toList.take (off + s)).length = off + s := by rw [List.length_take]; omega
      rw [List.drop_append, hl]
      have : off + (s + 1) + vs.length - (off + s) = vs.length + 1 := by omega
      rw [this, List.drop_succ_cons, List.drop_drop]
      have h0 : (arr.toList.take (off + s)).drop (off + (s + 1) + vs.length) = [] := by apply List.drop_eq_nil_of_le; omega
      rw [h0, List.nil_append]
      congr 1
      simp; omega
    rw [e1, e2]
    simp

theorem fill_R {c : C} {place : Nat → Option (Nat × Nat)} : ∀ (parts : List (Nat × Value)) (qs : List (Nat × Nat)) (as zero cs : List A) (z : Array Value),
    parts.map (fun p => place p.1) = qs.map some → Rl c as (parts.map (·.2)) → fillA zero qs as = some cs → Rl c zero z.toList → ∃ cells, Instr.fill place z parts = some cells ∧ Rl c cs cells.toList
  | [], qs, as, zero, cs, z, hp, ha, hf, hz => by
    have : qs = [] := by cases qs with | nil => rfl | cons _ _ => simp at hp
    subst this
    cases as with
    | nil => simp only [fillA, Option.some.injEq] at hf; subst hf; exact ⟨z, rfl, hz⟩
    | cons a r => obtain ⟨v, r', e, _⟩ := ha; cases e
  | (i, v) :: parts, qs, as, zero, cs, z, hp, ha, hf, hz => by
    cases qs with
    | nil => simp at hp
    | cons q qs =>
      obtain ⟨off, size⟩ := q
      simp only [List.map_cons, List.cons.injEq] at hp ha
      cases as with
      | nil => simp [Rl] at ha
      | cons a as =>
        obtain ⟨v', r', e, hv, hr⟩ := ha
        simp only [List.cons.injEq] at e
        obtain ⟨rfl, rfl⟩ := e
        simp only [fillA] at hf
        split at hf
        · rename_i hc
          obtain ⟨h1, h2, h3⟩ := hc
          have hcells := cellsOf_R hv h3
          have hlc := hcells.length
          have hlz := hz.length
          simp only [Array.length_toList] at hlc hlz
          have hsz : v.cells.size = size := by omega
          have hfold := foldl_set off v.cells.toList 0 z (by simp; omega)
          simp only [Nat.add_zero, Array.length_toList] at hfold
          have hz' : Rl c (zero.take off ++ cellsOf a ++ zero.drop (off + size)) (v.cells.zipIdx.foldl (fun cs (x : Value × Nat) => cs.setIfInBounds (off + x.2) x.1) z).toList := by
            rw [← Array.foldl_toList, Array.toList_zipIdx, hfold, hsz]
            exact ((Rl.take off hz).append hcells).append (Rl.drop _ hz)
          obtain ⟨cells, e1, e2⟩ := fill_R parts qs as _ cs _ hp.2 hr hf hz'
          refine ⟨cells, ?_, e2⟩
          simp only [Instr.fill, hp.1]
          rw [if_neg (by simp; omega)]
          exact e1
        · cases hf

section
variable {P : Program} {o : Oper} {act : Act} {c : C} {role : Nat → Option Nat} {st : St}
variable (hs : ∀ n, R c (st.slot n) (act.tmps.getD n undef)) (hobs : ∀ id, ObOK c role id)
include hs hobs

theorem zeroP_R {t : TypeId} {zero : List A} (h : zeroP P t = some zero) : ∃ i z, P.info? t = some i ∧ i.zero = some z ∧ Rl c zero z.cells.toList := by
  simp only [zeroP, Option.bind_eq_some_iff] at h
  obtain ⟨z, ⟨i, hi, hz⟩, hc⟩ := h
  exact ⟨i, z, hi, hz, constAs_R hc⟩

theorem does_bld {t : TypeId} {parts : Array (Nat × Operand)} {zero : List A} {ps qs : List (Nat × Nat)} {l : List SA} {out : Out} {Γ : Ctx} {d : Nat} (ho : o.op = .build t parts)
    (hz : zeroP P t = some zero) (hps : placesP P t = some ps) (hqs : (parts.toList.mapM fun p => ps[p.1]?) = some qs) (hl : compAs (parts.toList.map (·.2)) = some l)
    (he : eval Γ c.ob d (.bld zero qs) (l.map st.get) = some out) : Does P o act c role out := by
  have hR := compAs_R hs hl
  obtain ⟨i, z, hi, hiz, hzR⟩ := zeroP_R (c := c) hs hobs hz
  simp only [eval, Option.bind_eq_some_iff] at he
  obtain ⟨cs, hf, he⟩ := he
  rw [ok_some he]
  have hmap : ∀ (place : Nat → Option (Nat × Nat)), (∀ i x, ps[i]? = some x → place i = some x) →
      (parts.toList.map fun p => (p.1, act.eval p.2)).map (fun p => place p.1) = qs.map some := by
    intro place hp
    have : ∀ (l : List (Nat × Operand)) (qs : List (Nat × Nat)), (l.mapM fun p => ps[p.1]?) = some qs → (l.map fun p => (p.1, act.eval p.2)).map (fun p => place p.1) = qs.map some := by
      intro l
      induction l with
      | nil => intro qs h; simp at h; subst h; rfl
      | cons p l ih =>
        intro qs h
        simp only [List.mapM_cons, Option.bind_eq_bind, Option.pure_def, Option.bind_eq_some_iff, Option.some.injEq] at h
        obtain ⟨x, hx, rest, hr, rfl⟩ := h
        simp only [List.map_cons, hp _ _ hx]
        rw [ih rest hr]
    exact this _ _ hqs
  have hvals : Rl c (l.map st.get) ((parts.toList.map fun p => (p.1, act.eval p.2)).map (·.2)) := by
    simp only [List.map_map] at hR ⊢
    exact hR
  have hbuilt : ∃ cells, P.built t (parts.toList.map fun p => (p.1, act.eval p.2)) = some cells ∧ Rl c cs cells.toList := by
    simp only [placesP, Option.bind_eq_some_iff] at hps
    obtain ⟨u, hu, hps⟩ := hps
    split at hps
    · rename_i fs
      have hplaces : fs.toList.mapM (fun f => (P.info? f.type).map fun i => (f.offset, i.size)) = some ps := by
        rw [← hps]
        congr 1
        funext f
        cases h : P.info? f.type <;> simp [sizeP, h]
      obtain ⟨cells, e1, e2⟩ := fill_R _ qs _ zero cs z.cells (hmap (ps.toArray[·]?) (fun i x h => by simpa using h)) hvals hf hzR
      exact ⟨cells, by simp only [Program.built, hi, hu, hiz, hplaces]; exact e1, e2⟩
    · rename_i n e
      simp only [Option.map_eq_some_iff] at hps
      obtain ⟨s, hs', rfl⟩ := hps
      simp only [sizeP, Option.map_eq_some_iff] at hs'
      obtain ⟨ie, hie, rfl⟩ := hs'
      obtain ⟨cells, e1, e2⟩ := fill_R (place := fun i => some (i * ie.size, ie.size)) _ qs _ zero cs z.cells (hmap (fun i => some (i * ie.size, ie.size)) (fun i x h => by
        simp only [List.getElem?_map, Option.map_eq_some_iff] at h
        obtain ⟨j, hj, rfl⟩ := h
        rw [List.getElem?_range] at hj
        · simp only [Option.some.injEq] at hj; subst hj; rfl
        · rcases Nat.lt_or_ge i n with h' | h'
          · exact h'
          · rw [List.getElem?_eq_none (by simpa using h')] at hj; cases hj)) hvals hf hzR
      exact ⟨cells, by simp only [Program.built, hi, hu, hiz, hie]; exact e1, e2⟩
    · cases hps
  obtain ⟨cells, e1, e2⟩ := hbuilt
  refine Does.pure hobs (v := .agg cells) ?_ ⟨cells, rfl, e2⟩
  have hrun := run_build (P := P) c.w t (parts.map fun p => (p.1, act.eval p.2)) cells (by simpa using e1)
  simp only [execOp, ho, Sem.run_bind]
  rw [show (parts.map fun x => match x with | (i, x) => (i, act.eval x)) = parts.map fun p => (p.1, act.eval p.2) from rfl, hrun]
  rfl

/-- a new box -/
theorem does_newbox {cells : List A} {cs : Array Value} {et : TypeId} {out : Out} {d : Nat} (hrun : (execOp act.eval o).run P c.w = .ok (.value (.pointer (some ⟨c.w.heap.size, 0, none⟩))) (c.w.alloc (.cells cs et)))
    (hc : Rl c cells cs.toList) (h1 : cells.all one = true) (he : mk c.ob d [] (.box cells) = some out) : Does P o act c role out := by
  simp only [mk, List.nil_append, Option.some.injEq] at he
  subst he
  have hx := ext_newbox hobs (oid d 0) cells cs et hc h1
  refine ⟨_, _, _, _, _, _, hrun, .inl rfl, hx, ?_⟩
  refine ⟨rfl, ?_, ?_⟩
  · simp [updAll, renew, upd_same]
  · intro _ _; exact ⟨c.w.heap.size, upd_same _ _ _, rfl⟩

theorem does_alloc {t : TypeId} {zero : List A} {out : Out} {Γ : Ctx} {d : Nat} (ho : o.op = .alloc t) (hz : zeroP P t = some zero) (he : eval Γ c.ob d (.alloc zero) [] = some out) : Does P o act c role out := by
  obtain ⟨i, z, hi, hiz, hzR⟩ := zeroP_R (c := c) hs hobs hz
  simp only [eval] at he
  split at he
  · rename_i h1
    refine does_newbox hs hobs (cs := z.cells) (et := t) ?_ hzR h1 he
    simp [execOp, ho, Instr.alloc, zeroValue, typeInfo, hi, hiz, newVar, newRow]
  · cases he
theorem does_box {t : TypeId} {x : Operand} {sa : SA} {out : Out} {Γ : Ctx} {d : Nat} (ho : o.op = .box t x) (hx : compA x = some sa) (he : eval Γ c.ob d .box [st.get sa] = some out) : Does P o act c role out := by
  have hr := compA_R hs hx
  simp only [eval] at he
  split at he
  · rename_i h1
    refine does_newbox hs hobs (cs := (act.eval x).cells) (et := t) ?_ (cellsOf_R hr h1) h1 he
    simp [execOp, ho, Instr.box, newVar, newRow]
  · cases he
end
end Go.Vm
