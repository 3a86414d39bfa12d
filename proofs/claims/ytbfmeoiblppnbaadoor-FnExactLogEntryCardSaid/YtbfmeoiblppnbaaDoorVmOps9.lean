/- Each operation of the model does what the abstract machine says: stores, rows, appends. -/
import Derived.Test.YtbfmeoiblppnbaaDoorVmOps8
import Derived.Laws.BytesString
set_option linter.unusedVariables false
set_option linter.unusedSectionVars false
set_option linter.unusedSimpArgs false
namespace Go.Vm

theorem updAll_append (f : Nat → Ob) : ∀ (l l' : List (Nat × Ob)), updAll f (l ++ l') = updAll (updAll f l) l'
  | [], _ => rfl
  | (i, o) :: l, l' => updAll_append (upd f i o) l l'
theorem leaks_ver (ob : Nat → Ob) (id : Nat) : ∀ (ids : List Nat) (f : Nat → Ob), (f id).ver = (ob id).ver → (updAll f (leaks ob ids) id).ver = (ob id).ver
  | [], f, h => h
  | i :: ids, f, h => by
    simp only [leaks, List.map_cons, updAll]
    refine leaks_ver ob id ids _ ?_
    by_cases hi : id = i
    · subst hi; simp [upd_same]
    · simpa [upd_ne _ _ hi] using h

theorem RD_one {S : Nat → Nat} {w : World} {x : D} {v : Value} (h : RD S w x v) : v.oneCell' = true := by
  have : R ⟨S, w, fun _ => undef, fun _ => {}⟩ (.d x) v := h
  exact one_oneCell this rfl
theorem RDl_one {S : Nat → Nat} {w : World} : ∀ {xs : List D} {vs : List Value}, RDl S w xs vs → ∀ v ∈ vs, v.oneCell' = true
  | [], vs, h, v, hv => by simp only [RDl] at h; subst h; cases hv
  | x :: xs, _, ⟨u, r, e, hu, hr⟩, v, hv => by
    subst e
    rcases List.mem_cons.1 hv with rfl | h
    · exact RD_one hu
    · exact RDl_one hr v h
theorem Rl_one {c : C} : ∀ {xs : List A} {vs : List Value}, Rl c xs vs → xs.all one = true → ∀ v ∈ vs, v.oneCell' = true
  | [], vs, h, _, v, hv => by simp only [Rl] at h; subst h; cases hv
  | x :: xs, _, ⟨u, r, e, hu, hr⟩, h1, v, hv => by
    subst e
    simp only [List.all_cons, Bool.and_eq_true] at h1
    rcases List.mem_cons.1 hv with rfl | h
    · exact one_oneCell hu h1.1
    · exact Rl_one hr h1.2 v h

theorem RDat_cells {S : Nat → Nat} {w : World} {b : Nat} : ∀ (xs : List D) (o : Nat), RDat S w xs b o →
    ∃ vs : List Value, (∀ j v, vs[j]? = some v → w.cell? ⟨b, o + j, none⟩ = some v) ∧ RDl S w xs vs
  | [], _, _ => ⟨[], by simp, rfl⟩
  | x :: xs, o, ⟨_, ⟨v, hv, hx⟩, hr⟩ => by
    obtain ⟨vs, h2, h3⟩ := RDat_cells xs (o + 1) hr
    refine ⟨v :: vs, ?_, v, vs, rfl, hx, h3⟩
    intro j u hj
    cases j with
    | zero => simp at hj; subst hj; simpa using hv
    | succ j => simp at hj; have := h2 j u hj; rwa [show o + 1 + j = o + (j + 1) from by omega] at this

theorem snap_one {ob : Nat → Ob} {a : A} {x : D × List Nat} (h : snap ob a = some x) : one a = true := by
  cases a <;> simp_all [snap, one]
theorem snaps_one {ob : Nat → Ob} : ∀ {as : List A} {x : List D × List Nat}, snaps ob as = some x → as.all one = true
  | [], _, _ => rfl
  | a :: as, x, h => by
    simp only [snaps, Option.bind_eq_some_iff, Option.map_eq_some_iff] at h
    obtain ⟨y, h1, z, h2, _⟩ := h
    simp [snap_one h1, snaps_one h2]

section
variable {c : C} {role : Nat → Option Nat} (hobs : ∀ id, ObOK c role id)
include hobs
/-- what a slice's elements are, in memory -/
theorem snap_cells {a : A} {v : Value} {m : Nat} {xs : List D} {y : D} {ids : List Nat} (h : snap c.ob a = some (y, ids)) (hy : y.asLst = some (m, xs)) (hr : R c a v) :
    ∃ p k news, v = .slice p m k ∧ m ≤ k ∧ (p = none → m = 0 ∧ k = 0 ∧ xs = []) ∧ (∀ q, p = some q → ∀ j u, news[j]? = some u → c.w.cell? (q.add j) = some u) ∧ RDl c.S c.w xs news := by
  have key : ∀ v, RD c.S c.w (.lst m xs) v → ∃ p k news, v = .slice p m k ∧ m ≤ k ∧ (p = none → m = 0 ∧ k = 0 ∧ xs = []) ∧ (∀ q, p = some q → ∀ j u, news[j]? = some u → c.w.cell? (q.add j) = some u) ∧ RDl c.S c.w xs news := by
    rintro v ⟨p, k, e1, e2, e3, e4⟩
    cases p with
    | none =>
      obtain ⟨h1, h2, h3⟩ := e3 rfl
      exact ⟨none, k, [], e1, e2, e3, by simp, by subst h3; rfl⟩
    | some q =>
      obtain ⟨q1, q2⟩ := e4 q rfl
      obtain ⟨vs, h1, h2⟩ := RDat_cells xs _ q2
      refine ⟨some q, k, vs, e1, e2, by simp, ?_, h2⟩
      rintro q' ⟨rfl⟩ j u hj
      rcases q1 with q1 | ⟨_, q1⟩
      · obtain ⟨qb, qo, qs⟩ := q
        simp only at q1; subst q1
        rw [Addr.add_mk]; exact h1 j u hj
      · subst q1
        have : vs = [] := h2
        subst this; simp at hj
  have key' : ∀ v, RD c.S c.w y v → ∃ p k news, v = .slice p m k ∧ m ≤ k ∧ (p = none → m = 0 ∧ k = 0 ∧ xs = []) ∧ (∀ q, p = some q → ∀ j u, news[j]? = some u → c.w.cell? (q.add j) = some u) ∧ RDl c.S c.w xs news := by
    intro v hv
    cases y <;> simp only [D.asLst, reduceCtorEq, Option.some.injEq, Prod.mk.injEq] at hy
    · obtain ⟨rfl, rfl⟩ := hy; exact key v hv
    · obtain ⟨rfl, rfl⟩ := hy
      obtain ⟨p, k, e1, e2, e3, e4⟩ := hv
      exact key v ⟨some p, k, e1, e2, by simp, by rintro q ⟨rfl⟩; exact ⟨e3, e4⟩⟩
  cases a with
  | d x => simp only [snap, Option.some.injEq, Prod.mk.injEq] at h; obtain ⟨rfl, rfl⟩ := h; exact key' v hr
  | nil =>
    simp only [snap, Option.some.injEq, Prod.mk.injEq] at h
    obtain ⟨rfl, rfl⟩ := h
    simp only [D.asLst, Option.some.injEq, Prod.mk.injEq] at hy
    obtain ⟨rfl, rfl⟩ := hy
    simp only [R] at hr; subst hr
    exact ⟨none, 0, [], rfl, Nat.le_refl _, fun _ => ⟨rfl, rfl, rfl⟩, by simp, rfl⟩
  | row id ver =>
    simp only [snap] at h
    split at h
    · rename_i e sz n cap cells ho
      split at h
      · rename_i hv
        simp only [Option.some.injEq, Prod.mk.injEq] at h
        obtain ⟨rfl, rfl⟩ := h
        simp only [D.asLst, Option.some.injEq, Prod.mk.injEq] at hy
        obtain ⟨rfl, rfl⟩ := hy
        have e1 := hr.2.2 hv.symm (by rw [ho]; rfl)
        obtain ⟨xs, h1, h2, h3, h4⟩ := row_ok (hobs id) ho
        obtain ⟨a, k, q1, q2, q3, q4, q5⟩ := own_cap h1
        refine ⟨a, k, xs, e1.trans q1, q2, ?_, ?_, h2⟩
        · intro ha
          obtain ⟨p1, p2⟩ := q4 ha
          refine ⟨p1, p2, ?_⟩
          have := h1.1; rw [p1, Nat.zero_mul] at this
          exact List.eq_nil_of_length_eq_zero (by rw [← h2.length]; exact this)
        · intro q hq j u hj
          obtain ⟨p1, p2, p3⟩ := q5 q hq
          obtain ⟨qb, qo, qs⟩ := q
          simp only at p1 p2 p3; subst p1; subst p2
          exact h1.cells p3 j u hj
      · cases h
    · cases h
  | undef => simp [snap] at h
  | adr => simp [snap] at h
  | rad => simp [snap] at h
  | vw => simp [snap] at h
  | cp => simp [snap] at h
  | agg => simp [snap] at h
  | tup => simp [snap] at h
end

section
variable {P : Program} {o : Oper} {act : Act} {c : C} {role : Nat → Option Nat} {st : St}
variable (hs : ∀ n, R c (st.slot n) (act.tmps.getD n undef)) (hobs : ∀ id, ObOK c role id)
include hs hobs

theorem does_b2s {t u e : TypeId} {x : Operand} {sa : SA} {out : Out} {Γ : Ctx} {d : Nat} (ho : o.op = .convert t u x) (ht : P.underlying t = some (.slice e)) (hu : P.underlying u = some .string) (hE : P.underlying e = some (.int .u8))
    (hx : compA x = some sa) (he : eval Γ c.ob d .b2s [st.get sa] = some out) : Does P o act c role out := by
  have hr := compA_R hs hx
  generalize st.get sa = a at he hr
  simp only [eval, Option.bind_eq_some_iff] at he
  obtain ⟨⟨y, ids⟩, hsn, he⟩ := he
  split at he
  · rename_i n xs _ heq
    simp only [Prod.mk.injEq] at heq
    obtain ⟨rfl, rfl⟩ := heq
    split at he
    · rename_i hn
      simp only [Option.bind_eq_some_iff] at he
      obtain ⟨bs, hbs, he⟩ := he
      rw [ok_some he]
      obtain ⟨p, k, news, e1, e2, e3, e4, e5⟩ := snap_cells hobs hsn rfl hr
      have hb : ∀ (xs : List D) (news : List Value) (bs : List UInt8), bytesOf xs = some bs → RDl c.S c.w xs news → ∃ ns : List Int, news = ns.map (Value.int .u8) ∧ bs = ns.map fun n => UInt8.ofNat n.toNat := by
        intro xs
        induction xs with
        | nil => intro news bs h hR; simp only [bytesOf, Option.some.injEq] at h; simp only [RDl] at hR; subst h; subst hR; exact ⟨[], rfl, rfl⟩
        | cons x xs ih =>
          intro news bs h hR
          obtain ⟨v, r, e, hv, hr⟩ := hR
          cases x with
          | int q n =>
            cases q <;> simp only [bytesOf, Option.map_eq_some_iff, reduceCtorEq] at h
            obtain ⟨bs', h', rfl⟩ := h
            obtain ⟨ns, h1, h2⟩ := ih r bs' h' hr
            simp only [RD] at hv
            exact ⟨n :: ns, by rw [e, hv, h1]; rfl, by rw [h2]; rfl⟩
          | _ => simp [bytesOf] at h
      obtain ⟨ns, h1, h2⟩ := hb xs news bs hbs e5
      refine Does.pure hobs (v := .string ⟨bs.toArray⟩) ?_ rfl
      have hpush : ∀ (ns : List Int) (s : ByteArray), ns.foldl (fun r n => r.push (UInt8.ofNat n.toNat)) s = ⟨s.data ++ (ns.map fun n => UInt8.ofNat n.toNat).toArray⟩ := by
        intro ns
        induction ns with
        | nil => intro s; simp
        | cons n ns ih =>
          intro s
          rw [List.foldl_cons, ih]
          congr 1
          show s.data.push _ ++ _ = _
          simp
      simp only [execOp, ho, e1, Sem.run_bind, run_convert_bytes_string c.w t u e p n k ht hE hu]
      cases p with
      | none =>
        obtain ⟨q1, q2, q3⟩ := e3 rfl
        subst q3
        simp only [RDl] at e5
        subst e5
        have : ns = [] := by cases ns with | nil => rfl | cons _ _ => simp at h1
        subst this
        simp only [List.map_nil] at h2; subst h2
        simp [Conv.bytesToString]
        rfl
      | some q =>
        have hl : (loadCells q n).run P c.w = .ok (ns.map (Value.int .u8)).toArray c.w := by
          have hlen : n = (ns.map (Value.int .u8)).length := by rw [← h1, e5.length]; exact hn
          rw [hlen]
          exact run_loadCells_list c.w q _ (by rw [← h1]; exact e4 q rfl)
        rw [run_bytesToString c.w q n k ns hl, hpush, h2]
        simp
    · cases he
  · cases he

/-- a store into a box -/
theorem does_st {t : TypeId} {n : Nat} {x y : Operand} {l : List SA} {out : Out} (ho : o.op = .store t x y) (hn : sizeP P t = some n) (hl : compAs [x, y] = some l)
    (he : evSt c.ob n (l.map st.get) = some out) : Does P o act c role out := by
  obtain ⟨a, b, rfl, h1, h2⟩ := args2 hs hobs hl
  simp only [List.map_cons, List.map_nil] at he
  -- the store, at a place of a block
  have hrun : ∀ (g off : Nat) (et : TypeId) (cur : Array Value), act.eval x = .pointer (some ⟨g, off, none⟩) → c.w.heap[g]? = some (.cells cur et (0, 0)) → (act.eval y).cells.size = n → off + n ≤ cur.size →
      (∀ v ∈ (act.eval y).cells.toList, v.oneCell' = true) → (execOp act.eval o).run P c.w =
        .ok .skip (c.w.setRow g (cur.toList.take off ++ (act.eval y).cells.toList ++ cur.toList.drop (off + n)).toArray) := by
    intro g off et cur hx hg hsz hfit hone
    have hst := run_storeCells_at P g off et (act.eval y).cells.toList 0 cur c.w hg (by simp; omega) hone
    simp only [Nat.add_zero, Array.length_toList, hsz] at hst
    simp [execOp, ho, hx, Instr.storeAt, Instr.sureAddr, storeVar, sizeP_run hn, hsz, hst]
  have hother : ∀ (g b : Nat) (z : Array Value), b ≠ g → (c.w.setRow g z).heap[b]? = c.w.heap[b]? := fun g b z hb => setRow_other c.w g b z hb
  unfold evSt at he
  split at he <;> rename_i heq
  · rename_i id ver off a'
    simp only [List.cons.injEq, and_true] at heq
    obtain ⟨e1, e2⟩ := heq
    rw [e1] at h1; rw [e2] at h2
    simp only [Option.bind_eq_some_iff] at he
    obtain ⟨cells, hb, he⟩ := he
    split at he
    · rename_i hc
      obtain ⟨c1, c2, c3⟩ := hc
      simp only [Option.some.injEq] at he
      subst he
      obtain ⟨g, cs, et, q1, q2, q3, q4, q5, q6, q7⟩ := adr_at hs hobs h1 hb
      have hcell := cellsOf_R h2 c3
      have hsz : (act.eval y).cells.size = n := by have := hcell.length; simp at this; omega
      have hcl := q4.length
      simp only [Array.length_toList] at hcl
      have hr := hrun g off et cs q2 q3 hsz (by omega) (Rl_one hcell c3)
      refine ⟨_, undef, c.S, _, c.hd, role, hr, .inr ⟨rfl, rfl⟩, ?_, trivial⟩
      have hob := (boxAt_some hb).1
      refine ext_gen hobs id ?_ ?_ ?_ (fun b hb => rfl) (fun j hj => ⟨upd_ne _ _ hj, rfl⟩) ?_ rfl rfl rfl (by simp [World.setRow]) ?_
      · exact fun b hb _ => rfl
      · intro b hb hr'
        exact hother g b _ (fun h => hr' (by rw [h]; exact q7))
      · intro b o v hr' ho' hv
        refine ⟨ho', ?_⟩
        have hne : b ≠ g := by rintro rfl; rw [q6] at ho'; omega
        show (c.w.setRow g _).cell? _ = _
        rw [World.cell?_of_block (w := c.w) (hother g b _ hne)]; exact hv
      · right
        refine ⟨by simp [updAll, upd_same], ?_, ?_, rfl⟩
        · simp only [updAll, upd_same, hob]; rfl
        · simp only [updAll, upd_same, hob]; rfl
      · intro hle
        unfold ObOK
        simp only [updAll, upd_same]
        refine ⟨g, _, et, q1, setRow_heap c.w g cs _ et _ q3, ?_, ?_, q6, q7⟩
        · simp only [List.toList_toArray] at *
          exact ((Rl.take off (Rl.mono hle _ _ q4)).append (Rl.mono hle _ _ hcell)).append (Rl.drop _ (Rl.mono hle _ _ q4))
        · simp only [List.all_append, Bool.and_eq_true]
          refine ⟨⟨?_, c3⟩, ?_⟩
          · rw [List.all_eq_true] at q5 ⊢; exact fun z hz => q5 z (List.mem_of_mem_take hz)
          · rw [List.all_eq_true] at q5 ⊢; exact fun z hz => q5 z (List.mem_of_mem_drop hz)
    · cases he
  · rename_i id ver off a'
    simp only [List.cons.injEq, and_true] at heq
    obtain ⟨e1, e2⟩ := heq
    rw [e1] at h1; rw [e2] at h2
    simp only [Option.bind_eq_some_iff] at he
    obtain ⟨⟨ze, zs, zn, zc, cells⟩, hb, ⟨ys, ls⟩, hsn, he⟩ := he
    simp only at he
    split at he
    · rename_i hc
      obtain ⟨c1, c2, c3, c4⟩ := hc
      simp only [Option.some.injEq] at he
      subst he
      obtain ⟨g, k, xs, q1, q2, q3, q4, q5, q6⟩ := rad_at hs hobs h1 hb
      have h1' := snaps_one hsn
      have hcell := cellsOf_R h2 h1'
      obtain ⟨r1, r2⟩ := snaps_R hobs hsn hcell
      obtain ⟨S1, x1, y1⟩ := ext_leaks ls hobs r1
      have hys : RDl S1 c.w ys (act.eval y).cells.toList := r2 S1 x1.le.stab y1
      have hsame : updAll c.ob (leaks c.ob ls) id = c.ob id := by
        have : ∀ (l : List Nat) (f : Nat → Ob), id ∉ l → updAll f (leaks c.ob l) id = f id := by
          intro l
          induction l with
          | nil => intro f _; rfl
          | cons i l ih =>
            intro f h
            simp only [List.mem_cons, not_or] at h
            simp only [leaks, List.map_cons, updAll]
            rw [show l.map (fun id => (id, ({ c.ob id with leak := true } : Ob))) = leaks c.ob l from rfl, ih _ h.2, upd_ne _ _ h.1]
        exact this ls c.ob (offL_mem c4)
      have hsz : (act.eval y).cells.size = n := by have := hys.length; simp at this; omega
      simp only [c1, Bool.false_eq_true, if_false] at q6
      have hob := (rowAt_some hb).1
      have hS1 : S1 g = 0 := by
        have q := x1.obs id
        unfold ObOK at q
        simp only [hsame, hob] at q
        obtain ⟨_, _, _, q7, _⟩ := q
        have q8 := (q7 g (by rw [q1]; rfl)).2
        simpa [c1] using q8
      obtain ⟨cap, cur, hhd, hg, hnc, hcm, hcs, htake⟩ : ∃ cap cur, c.hd id = .slice (some ⟨g, 0, none⟩) zn cap ∧ c.w.heap[g]? = some (.cells cur ze (0, 0)) ∧ zn ≤ cap ∧ cap ≤ maxLen ∧ cur.size = cap * zs ∧ cur.toList.take (zn * zs) = xs := by
        rcases q3.2 with ⟨e, _⟩ | ⟨g', cap, cur, e, _, h3, h4, h5, h6, h7⟩
        · rw [q1] at e; simp at e
        · have e0 := e
          rw [q1] at e
          injection e with e' _ _
          injection e' with e'
          injection e' with e'
          subst e'
          exact ⟨cap, cur, e0, h3, h4, h5, h6, h7⟩
      have hxl := q3.1
      have hcl := q4.length
      have hle' : zn * zs ≤ cap * zs := Nat.mul_le_mul_right _ hnc
      have hr := hrun g off ze cur q2 hg hsz (by rw [hcs]; omega) (RDl_one hys)
      refine ⟨_, undef, S1, _, c.hd, role, hr, .inr ⟨rfl, rfl⟩, x1.trans ?_, trivial⟩
      refine ext_gen x1.obs id ?_ ?_ ?_ (fun b hb => rfl) (fun j hj => ⟨by simp only [updAll_append, updAll, upd_ne _ _ hj], rfl⟩) ?_ rfl rfl rfl (by simp [World.setRow]) ?_
      · exact fun b hb _ => rfl
      · intro b hb hr'
        exact hother g b _ (fun h => hr' (by rw [h]; exact q5))
      · intro b o v hr' ho' hv
        refine ⟨ho', ?_⟩
        have hne : b ≠ g := by rintro rfl; simp only at ho'; omega
        show (c.w.setRow g _).cell? _ = _
        rw [World.cell?_of_block (w := c.w) (hother g b _ hne)]; exact hv
      · right
        refine ⟨by simp [updAll_append, updAll, upd_same, hsame], ?_, ?_, rfl⟩
        · simp only [updAll_append, updAll, upd_same, hsame, hob]; rfl
        · simp only [updAll_append, updAll, upd_same, hsame, hob]; rfl
      · intro hle
        unfold ObOK
        simp only [updAll_append, updAll, upd_same]
        refine ⟨xs.take off ++ (act.eval y).cells.toList ++ xs.drop (off + n), ?_, ?_, ?_, ?_⟩
        · refine ⟨by simp; omega, .inr ⟨g, cap, _, hhd, Nat.zero_le _, setRow_heap c.w g cur _ ze _ hg, hnc, hcm, ?_, ?_⟩⟩
          · simp; omega
          · simp only [List.toList_toArray]
            subst htake
            have hA : ((cur.toList.take off)).length = off := by simp; omega
            have e1 : (cur.toList.take (zn * zs)).take off = cur.toList.take off := by rw [List.take_take]; congr 1; omega
            have e2 : (cur.toList.take off ++ (act.eval y).cells.toList ++ cur.toList.drop (off + n)).take (zn * zs) =
                cur.toList.take off ++ (act.eval y).cells.toList ++ (cur.toList.drop (off + n)).take (zn * zs - (off + n)) := by
              rw [List.take_append, List.take_of_length_le (by simp; omega)]
              congr 2
              simp; omega
            rw [e1, e2, List.drop_take]
        · exact ((RDl.take off (RDl.mono (x1.le.stab.trans hle.stab) _ _ q4)).append (RDl.mono hle.stab _ _ hys)).append (RDl.drop _ (RDl.mono (x1.le.stab.trans hle.stab) _ _ q4))
        · intro b hb'
          rw [q1] at hb'
          simp only [Value.ownBlock, Option.some.injEq] at hb'
          subst hb'
          exact ⟨q5, by simp [c1, hS1]⟩
        · have := (row_ok (hobs id) hob)
          obtain ⟨_, _, _, _, h4⟩ := this
          exact h4
    · cases he
  · cases he
end
end Go.Vm
