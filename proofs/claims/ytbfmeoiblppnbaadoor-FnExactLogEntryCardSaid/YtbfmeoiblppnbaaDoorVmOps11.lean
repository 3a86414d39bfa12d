/- Each operation of the model does what the abstract machine says: rows made; and all operations without a call in one statement. -/
import Derived.Test.YtbfmeoiblppnbaaDoorVmOps10
set_option linter.unusedVariables false
set_option linter.unusedSectionVars false
set_option linter.unusedSimpArgs false
namespace Go.Vm

theorem fill_seq (size : Nat) : ∀ (parts : List Value) (k : Nat) (arr : Array Value), (∀ v ∈ parts, v.cells.size = size) → (k + parts.length) * size ≤ arr.size →
    ∃ cells, Instr.fill (fun i => some (i * size, size)) arr ((parts.zipIdx k).map fun x => (x.2, x.1)) = some cells ∧
      cells.toList = arr.toList.take (k * size) ++ parts.flatMap (·.cells.toList) ++ arr.toList.drop ((k + parts.length) * size)
  | [], k, arr, _, h => ⟨arr, rfl, by simp⟩
  | v :: parts, k, arr, hv, h => by
    have hsz : v.cells.size = size := hv v (by simp)
    simp only [List.length_cons] at h
    have hfit : k * size + size ≤ arr.size := by
      have : (k + 1) * size ≤ (k + (parts.length + 1)) * size := Nat.mul_le_mul_right _ (by omega)
      rw [Nat.add_mul, Nat.one_mul] at this; omega
    have hfold := foldl_set (k * size) v.cells.toList 0 arr (by simp; omega)
    simp only [Nat.add_zero, Array.length_toList] at hfold
    obtain ⟨cells, e1, e2⟩ := fill_seq size parts (k + 1) (v.cells.zipIdx.foldl (fun cs (x : Value × Nat) => cs.setIfInBounds (k * size + x.2) x.1) arr) (fun u hu => hv u (by simp [hu])) (by
      rw [← Array.foldl_toList, Array.toList_zipIdx, ← Array.length_toList, hfold, hsz]
      simp
      have : k + 1 + parts.length = k + (parts.length + 1) := by omega
      rw [this]; omega)
    refine ⟨cells, ?_, ?_⟩
    · simp only [List.zipIdx_cons, List.map_cons, Instr.fill]
      rw [if_neg (by simp; omega)]
      exact e1
    · rw [e2, ← Array.foldl_toList, Array.toList_zipIdx, hfold, hsz]
      have hA : (arr.toList.take (k * size)).length = k * size := by rw [List.length_take]; simp; omega
      have hAv : (arr.toList.take (k * size) ++ v.cells.toList).length = (k + 1) * size := by rw [List.length_append, hA, Nat.add_mul]; simp [hsz]
      rw [List.take_append, List.take_of_length_le (by omega), hAv, Nat.sub_self, List.take_zero, List.append_nil, List.drop_append, hAv]
      rw [List.drop_eq_nil_of_le (by rw [hAv]; exact Nat.mul_le_mul_right _ (by omega)), List.nil_append, List.drop_drop]
      simp only [List.flatMap_cons, List.length_cons]
      have : k * size + size + ((k + 1 + parts.length) * size - (k + 1) * size) = (k + (parts.length + 1)) * size := by
        have e : (k + 1 + parts.length) * size = (k + 1) * size + parts.length * size := by rw [Nat.add_mul]
        have e' : (k + (parts.length + 1)) * size = (k + 1) * size + parts.length * size := by rw [← Nat.add_mul]; congr 1; omega
        rw [e, e', Nat.add_mul, Nat.one_mul]; omega
      rw [this]
      simp

theorem flat_repl (zs : List Value) (s : Nat) (hs : zs.length = s) (hpos : 0 < s) : ∀ (l j : Nat), (List.replicate l zs).flatten[j]? = if j < l * s then zs[j % s]? else none
  | 0, j => by simp
  | l + 1, j => by
    rw [List.replicate_succ, List.flatten_cons]
    by_cases h : j < s
    · rw [List.getElem?_append_left (by omega), if_pos (by rw [Nat.add_mul]; omega), Nat.mod_eq_of_lt h]
    · rw [List.getElem?_append_right (by omega), flat_repl zs s hs hpos l (j - zs.length), hs]
      have hm : (j - s) % s = j % s := by
        have : j = (j - s) + s := by omega
        conv => rhs; rw [this, Nat.add_mod_right]
      rw [hm]
      by_cases h' : j < (l + 1) * s
      · rw [if_pos h', if_pos (by rw [Nat.add_mul] at h'; omega)]
      · rw [if_neg h', if_neg (by rw [Nat.add_mul] at h'; omega)]

theorem made_take (z : Array Value) (s l k : Nat) (hs : z.size = s) (hpos : 0 < s) (hlk : l ≤ k) : (madeCells z (k * s)).toList.take (l * s) = (List.replicate l z.toList).flatten := by
  apply List.ext_getElem?
  intro j
  rw [flat_repl z.toList s (by simpa using hs) hpos l j, List.getElem?_take]
  have hle : l * s ≤ k * s := Nat.mul_le_mul_right _ hlk
  by_cases h : j < l * s
  · rw [if_pos h, if_pos h]
    simp only [madeCells, Array.toList_map, Array.toList_range, List.getElem?_map]
    rw [List.getElem?_range (by omega)]
    have hm : j % z.size < z.size := Nat.mod_lt _ (by omega)
    simp [hs ▸ hm, hs]
  · rw [if_neg h, if_neg h]

theorem RDl_repl {S : Nat → Nat} {w : World} {xs : List D} {vs : List Value} (h : RDl S w xs vs) : ∀ l, RDl S w (List.replicate l xs).flatten (List.replicate l vs).flatten
  | 0 => rfl
  | l + 1 => by rw [List.replicate_succ, List.replicate_succ, List.flatten_cons, List.flatten_cons]; exact h.append (RDl_repl h l)

theorem dsOfA_R {c : C} : ∀ {as : List A} {xs : List D} {vs : List Value}, dsOfA as = some xs → Rl c as vs → RDl c.S c.w xs vs
  | [], xs, vs, h, hr => by simp only [dsOfA, Option.some.injEq] at h; subst h; exact hr
  | a :: as, xs, vs, h, ⟨v, r, e, hv, hr⟩ => by
    simp only [dsOfA, Option.bind_eq_some_iff, Option.map_eq_some_iff] at h
    obtain ⟨x, hx, l, hl, rfl⟩ := h
    refine ⟨v, r, e, ?_, dsOfA_R hl hr⟩
    cases a <;> simp only [dOfA, Option.some.injEq, reduceCtorEq] at hx
    · subst hx; exact hv
    · subst hx; simp only [R] at hv; subst hv; exact ⟨none, 0, rfl, Nat.le_refl _, fun _ => ⟨rfl, rfl, rfl⟩, by simp⟩

section
variable {P : Program} {o : Oper} {act : Act} {c : C} {role : Nat → Option Nat} {st : St}
variable (hs : ∀ n, R c (st.slot n) (act.tmps.getD n undef)) (hobs : ∀ id, ObOK c role id)
include hs hobs

/-- a new row in the world that an allocation gives, some rows shared ahead of it -/
theorem does_newrow {e sz n : Nat} {cap : Option Nat} {cells : List D} {ids : List Nat} {cur : Array Value} {k : Nat} {out : Out} {d : Nat} {xs : List Value}
    (hrun : (execOp act.eval o).run P c.w = .ok (.value (.slice (some ⟨c.w.heap.size, 0, none⟩) n k)) (c.w.alloc (.cells cur e)))
    (hids : ∀ id ∈ ids, ∃ e sz n cap cells, (c.ob id).o = .row e sz n cap cells)
    (hown : (c.w.alloc (.cells cur e)).ownsRow 0 e sz (.slice (some ⟨c.w.heap.size, 0, none⟩) n k) n xs)
    (hc : ∀ S', Stab c.S c.w S' c.w → (∀ id ∈ ids, ∀ e sz n cap cells, (c.ob id).o = .row e sz n cap cells → ∀ b, (c.hd id).ownBlock = some b → S' b = n * sz) → RDl S' c.w cells xs)
    (hcap : ∀ k', cap = some k' → k = k') (he : mk c.ob d (leaks c.ob ids) (.row e sz n cap cells) = some out) : Does P o act c role out := by
  simp only [mk, Option.some.injEq] at he
  subst he
  obtain ⟨S', x1, x2⟩ := ext_leaks ids hobs hids
  have x3 := ext_newrow (c := ⟨S', c.w, c.hd, updAll c.ob (leaks c.ob ids)⟩) (role := role) x1.obs (oid d 0) e sz n cap cells (w' := c.w.alloc (.cells cur e)) (k0 := k) xs rfl (Nat.le_refl _)
    (World.grownBy_alloc c.w _ none) hown (hc S' x1.le.stab x2) hcap
  have hv := leaks_ver c.ob (oid d 0) ids c.ob rfl
  have hob : updAll c.ob (leaks c.ob ids ++ [renew c.ob (oid d 0) (.row e sz n cap cells)]) =
      upd (updAll c.ob (leaks c.ob ids)) (oid d 0) { ver := (updAll c.ob (leaks c.ob ids) (oid d 0)).ver + 1, o := .row e sz n cap cells, leak := false } := by
    rw [updAll_append, hv]; rfl
  refine ⟨_, _, upd S' c.w.heap.size 0, _, upd c.hd (oid d 0) (.slice (some ⟨c.w.heap.size, 0, none⟩) n k), upd role c.w.heap.size (some (oid d 0)), hrun, .inl rfl, ?_, ?_⟩
  · rw [hob]; exact x1.trans x3
  · refine ⟨rfl, ?_, ?_⟩
    · simp [hob, upd_same, hv]
    · intro _ _; exact (upd_same _ _ _).symm

omit hs hobs in
theorem run_lit {t e : TypeId} {ie : TypeInfo} {z : Value} {len : Nat} (ps : Array (Nat × Value)) {cells : Array Value} (w : World) (ht : P.underlying t = some (.slice e)) (hi : P.info? e = some ie)
    (hz : ie.zero = some z) (hbig : len * ie.size ≤ 2 ^ 24)
    (hfill : Instr.fill (fun i => some (i * ie.size, ie.size)) ((Array.range (len * ie.size)).map (z.cells[· % z.cells.size]!)) ps.toList = some cells) :
    (Instr.buildSlice t len ps).run P w = .ok (.slice (some ⟨w.heap.size, 0, none⟩) len len) (w.alloc (.cells cells e)) := by
  have hbig' : ¬ (len * ie.size > 2 ^ 24) := by omega
  simp only [Instr.buildSlice, Sem.run_bind, run_und ht, Result.andThen_ok, sizeOf, typeInfo, run_program, hi, Sem.run_pure, hbig', if_false]
  by_cases h0 : len * ie.size = 0
  · have e0 : (Array.range (len * ie.size)).map ((#[] : Array Value)[· % (#[] : Array Value).size]!) = (Array.range (len * ie.size)).map (z.cells[· % z.cells.size]!) := by
      have hr0 : Array.range (len * ie.size) = #[] := by rw [h0]; rfl
      rw [hr0, Array.map_empty, Array.map_empty]
    rw [if_pos h0]
    rw [pure_bind]
    rw [e0, hfill]
    rfl
  · rw [if_neg h0]
    simp only [Sem.run_bind, zeroValue, typeInfo, run_program, Result.andThen_ok, hi, Sem.run_pure, hz]
    rw [hfill]
    rfl

theorem does_bldS {t e : TypeId} {ie : TypeInfo} {len : Nat} {parts : Array (Nat × Operand)} {l : List SA} {out : Out} {Γ : Ctx} {d : Nat} (ho : o.op = .buildSlice t len parts)
    (ht : P.underlying t = some (.slice e)) (hi : P.info? e = some ie) (hix : parts.toList.map (·.1) = List.range len) (hbig : len * ie.size ≤ 2 ^ 24) (hpos : 0 < ie.size) (hz : ie.zero.isSome = true)
    (hl : compAs (parts.toList.map (·.2)) = some l) (he : eval Γ c.ob d (.bldS e ie.size len ((List.range len).map fun i => (i * ie.size, ie.size))) (l.map st.get) = some out) : Does P o act c role out := by
  have hR := compAs_R hs hl
  obtain ⟨z, hz⟩ := Option.isSome_iff_exists.1 hz
  simp only [eval] at he
  split at he
  · rename_i hc
    obtain ⟨_, hlen, hall⟩ := hc
    simp only [Option.bind_eq_some_iff] at he
    obtain ⟨⟨xs, ids⟩, hsn, he⟩ := he
    -- the parts' cells
    have hone := snaps_one hsn
    have hcells : ∀ (as : List A) (vs : List Value), Rl c as vs → (as.flatMap cellsOf).all one = true → (as.all fun a => decide ((cellsOf a).length = ie.size)) = true →
        Rl c (as.flatMap cellsOf) (vs.flatMap (·.cells.toList)) ∧ ∀ v ∈ vs, v.cells.size = ie.size := by
      intro as
      induction as with
      | nil => intro vs h _ _; simp only [Rl] at h; subst h; exact ⟨rfl, by simp⟩
      | cons a as ih =>
        rintro _ ⟨v, r, rfl, hv, hr⟩ h1 h2
        simp only [List.flatMap_cons, List.all_append, Bool.and_eq_true, List.all_cons, decide_eq_true_eq] at h1 h2
        obtain ⟨i1, i2⟩ := ih r hr h1.2 h2.2
        have hc := cellsOf_R hv h1.1
        refine ⟨by simp only [List.flatMap_cons]; exact hc.append i1, ?_⟩
        intro u hu
        rcases List.mem_cons.1 hu with rfl | h
        · have := hc.length; simp at this; omega
        · exact i2 u h
    obtain ⟨h1, h2⟩ := hcells _ _ hR hone hall
    have hvl : ((parts.toList.map (·.2)).map act.eval).length = len := by rw [hR.length]; simpa using hlen
    -- the fill
    obtain ⟨cells, e1, e2⟩ := fill_seq ie.size ((parts.toList.map (·.2)).map act.eval) 0 ((Array.range (len * ie.size)).map (z.cells[· % z.cells.size]!)) h2 (by simp at hvl ⊢; rw [hvl]; exact Nat.le_refl _)
    simp only [Nat.zero_mul, List.take_zero, List.nil_append, Nat.zero_add] at e2
    have hsize : ((parts.toList.map (·.2)).map act.eval).length * ie.size = len * ie.size := by rw [hvl]
    rw [List.drop_eq_nil_of_le (by rw [hsize]; simp), List.append_nil] at e2
    have hparts : (parts.map fun p => (p.1, act.eval p.2)).toList = (((parts.toList.map (·.2)).map act.eval).zipIdx).map fun x => (x.2, x.1) := by
      apply List.ext_getElem?
      intro j
      simp only [Array.toList_map, List.getElem?_map, List.getElem?_zipIdx, List.map_map]
      have hj := congrArg (fun l => l[j]?) hix
      simp only [List.getElem?_map] at hj
      cases hp : parts.toList[j]? with
      | none => simp
      | some p =>
        rw [hp] at hj
        simp only [Option.map_some] at hj
        have : p.1 = j := by
          rcases Nat.lt_or_ge j len with h | h
          · rw [List.getElem?_range h] at hj; injection hj
          · rw [List.getElem?_eq_none (by simpa using h)] at hj; cases hj
        simp [this]
    have hsz : cells.size = len * ie.size := by
      rw [← Array.length_toList, e2]
      have := h1.length; have hx := (snaps_R hobs hsn h1).2 c.S
      have hflat : ∀ (vs : List Value), (∀ v ∈ vs, v.cells.size = ie.size) → (vs.flatMap (·.cells.toList)).length = vs.length * ie.size := by
        intro vs
        induction vs with
        | nil => intro _; simp
        | cons v vs ih => intro h; rw [List.flatMap_cons, List.length_append, ih (fun u hu => h u (by simp [hu]))]; simp [h v (by simp), Nat.add_mul]; omega
      rw [hflat _ h2, hvl]
    obtain ⟨q1, q2⟩ := snaps_R hobs hsn h1
    refine does_newrow hs hobs (cur := cells) (k := len) (xs := cells.toList) ?_ q1 ?_ ?_ (by simp) he
    · have hfill : Instr.fill (fun i => some (i * ie.size, ie.size)) ((Array.range (len * ie.size)).map (z.cells[· % z.cells.size]!)) (parts.map fun p => (p.1, act.eval p.2)).toList = some cells := by rw [hparts]; exact e1
      have hr := run_lit (t := t) (parts.map fun p => (p.1, act.eval p.2)) c.w ht hi hz hbig hfill
      simp only [execOp, ho, Sem.run_bind]
      rw [show (parts.map fun x => match x with | (i, x) => (i, act.eval x)) = parts.map fun p => (p.1, act.eval p.2) from rfl, hr]
      rfl
    · have := World.ownsRow_lit (base := 0) (e := e) (size := ie.size) c.w cells len (Nat.zero_le _) (by
        simp only [maxLen]
        have : len ≤ len * ie.size := Nat.le_mul_of_pos_right _ hpos
        omega) hsz
      exact this
    · intro S' hS hb
      rw [e2]; exact q2 S' hS hb
  · cases he

theorem does_mkS {t e : TypeId} {i : TypeInfo} {z : List A} {zd : List D} {x y : Operand} {l : List SA} {out : Out} {Γ : Ctx} {d : Nat} (ho : o.op = .makeSlice t x y)
    (ht : P.underlying t = some (.slice e)) (hi : P.info? e = some i) (hz : zeroP P e = some z) (hzd : dsOfA z = some zd) (hl : compAs [x, y] = some l)
    (he : eval Γ c.ob d (.mkS e i.size i.bytes zd) (l.map st.get) = some out) : Does P o act c role out := by
  obtain ⟨a, b, rfl, h1, h2⟩ := args2 hs hobs hl
  obtain ⟨i', zv, hi', hzv, hzR⟩ := zeroP_R (c := c) hs hobs hz
  rw [hi] at hi'; injection hi' with hi'; subst hi'
  have hzR' := dsOfA_R hzd hzR
  simp only [eval, List.map_cons, List.map_nil] at he
  split at he
  · rename_i k1 ln k2 cp heq
    simp only [List.cons.injEq, and_true] at heq
    obtain ⟨e1, e2⟩ := heq
    rw [e1] at h1; rw [e2] at h2
    simp only [R, RD] at h1 h2
    split at he
    · rename_i hc
      obtain ⟨c1, c2, c3, c4, c5, c6⟩ := hc
      have hr := run_make (P := P) c.w t e i zv ht hi hzv k1 k2 ln cp c1 c2 (by simp only [roomB] at c3; omega) c4
      have hzs : zv.cells.size = i.size := by have := hzR'.length; simp at this; omega
      refine does_newrow hs hobs (ids := []) (cur := madeCells zv.cells (cp.toNat * i.size)) (k := cp.toNat) (xs := (List.replicate ln.toNat zv.cells.toList).flatten) ?_ (by simp) ?_ ?_ (by simp) he
      · simp [execOp, ho, h1, h2, hr]
      · refine ⟨?_, .inr ⟨c.w.heap.size, cp.toNat, _, rfl, Nat.zero_le _, heap_alloc_new c.w _, by omega, by simp only [maxLen]; omega, size_madeCells _ _, ?_⟩⟩
        · simp [hzs]
        · exact made_take zv.cells i.size ln.toNat cp.toNat hzs c6 (by omega)
      · intro S' hS _
        exact RDl_repl (RDl.mono hS _ _ hzR') _
    · cases he
  · cases he
end
end Go.Vm
