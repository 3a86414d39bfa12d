/- Each operation of the model does what the abstract machine says: a slice beside nil, an append of zeros, a row made shorter. -/
import Derived.Test.YtbfmeoiblppnbaaDoorVmOps13
import Derived.Laws.Cover3
set_option linter.unusedVariables false
set_option linter.unusedSectionVars false
set_option linter.unusedSimpArgs false
namespace Go.Vm

theorem zeros_list (z : Array Value) (s k : Nat) (hs : z.size = s) (hpos : 0 < s) : (Builtin.zeroCells z k).toList = (List.replicate k z.toList).flatten := by
  apply List.ext_getElem?
  intro j
  rw [flat_repl z.toList s (by simpa using hs) hpos k j]
  simp only [Builtin.zeroCells, Array.toList_map, Array.toList_range, List.getElem?_map]
  by_cases h : j < k * s
  · rw [List.getElem?_range (by rw [hs]; exact h), if_pos h]
    have hm : j % z.size < z.size := Nat.mod_lt _ (by omega)
    simp [hs ▸ hm, hs]
  · rw [if_neg h, List.getElem?_eq_none (by simp [hs]; omega)]; rfl

theorem one_repl {l : List Value} (h : ∀ u ∈ l, u.oneCell' = true) (k : Nat) : ∀ u ∈ (List.replicate k l).flatten, u.oneCell' = true := by
  intro u hu
  obtain ⟨l', h1, h2⟩ := List.mem_flatten.1 hu
  rw [(List.mem_replicate.1 h1).2] at h2
  exact h u h2

/-- an append of zeros, and where the new row lies -/
theorem run_appZ {P : Program} (w : World) (t tn ty e : TypeId) (i : TypeInfo) (z : Value) (kn kq : IntKind) (ht : P.underlying t = some (.slice e)) (htn : P.underlying tn = some (.int kn)) (hi : P.info? e = some i) (hz : i.zero = some z)
    (hzs : z.cells.size = i.size) (hsz : 0 < i.size) (h1 : ∀ u ∈ z.cells.toList, u.oneCell' = true) (v : Value) (n : Nat) (xs : List Value) (hown : w.ownsRow 0 e i.size v n xs)
    (k : Nat) (h63 : n + k ≤ maxLen) (hbytes : (n + k) * i.bytes ≤ 140737488355328) :
    ∃ v' w', (Builtin.append_ #[t, tn] ty #[v, .int kq k]).run P w = .ok v' w' ∧ w'.ownsRow 0 e i.size v' (n + k) (xs ++ (List.replicate k z.cells.toList).flatten) ∧
      ((v'.ownBlock = v.ownBlock ∧ w.grownBy w' v.ownBlock) ∨ (v'.ownBlock = some w.heap.size ∧ w.grownBy w' none)) ∧ (v' = .slice none 0 0 ↔ v = .slice none 0 0 ∧ k = 0) := by
  have hsmall : n + k ≤ 9223372036854775807 := by simp only [maxLen] at h63; omega
  have hw : IntKind.i64.wrap (k : Int) = k := by rw [IntKind.wrap_i64]; omega
  have hneg : ¬ ((k : Int) < 0) := by omega
  have hkb : k * i.bytes ≤ 140737488355328 := Nat.le_trans (Nat.mul_le_mul_right _ (Nat.le_add_left k n)) hbytes
  have h48i : ¬ (281474976710656 < (k : Int) * (i.bytes : Int)) := by rw [← Int.natCast_mul]; omega
  have hzl := zeros_list z.cells i.size k hzs hsz
  have hlen : (xs ++ (List.replicate k z.cells.toList).flatten).length = (n + k) * i.size := by
    rw [List.length_append, hown.1, ← hzl, Array.length_toList, size_zeroCells, hzs, Nat.add_mul]
  by_cases hk : k = 0
  · subst hk
    simp only [List.replicate_zero, List.flatten_nil, List.append_nil, Nat.add_zero] at hlen ⊢
    have hr : (Builtin.append_ #[t, tn] ty #[v, .int kq (0 : Nat)]).run P w = .ok v w := by
      rcases hown.2 with ⟨rfl, rfl⟩ | ⟨g, cap, cur, rfl, hbg, hg, hnc, hcm, hcs, htake⟩
      · simp [Builtin.append_, run_underlying ht, run_underlying htn, sizeOf, typeInfo, hi, asInt, asIntOf, IntKind.wrap_i64]
      · simp [Builtin.append_, run_underlying ht, run_underlying htn, sizeOf, typeInfo, hi, asInt, asIntOf, IntKind.wrap_i64, hnc, storeCells]
    exact ⟨v, w, hr, hown, .inl ⟨rfl, ⟨rfl, rfl, rfl, Nat.le_refl _, fun _ _ _ => rfl⟩⟩, by simp⟩
  · have hns : ¬ (k * i.size = 0) := Nat.mul_ne_zero hk (by omega)
    have grown : ∀ (old : Nat), old < n + k →
        (w.drew.alloc (.cells (xs.toArray ++ Builtin.zeroCells z.cells k ++ Builtin.zeroCells z.cells (grownCap w (n + k) old e - (n + k))) e)).ownsRow 0 e i.size
          (.slice (some ⟨w.heap.size, 0, none⟩) (n + k) (grownCap w (n + k) old e)) (n + k) (xs ++ (List.replicate k z.cells.toList).flatten) ∧
        w.grownBy (w.drew.alloc (.cells (xs.toArray ++ Builtin.zeroCells z.cells k ++ Builtin.zeroCells z.cells (grownCap w (n + k) old e - (n + k))) e)) none := by
      intro old ho
      have hge := grownCap_ge w (n + k) old e
      have hcm : grownCap w (n + k) old e ≤ maxLen := grownCap_le_maxLen w (n + k) old e h63
      refine ⟨⟨hlen, .inr ⟨w.heap.size, _, _, rfl, Nat.zero_le _, heap_alloc_new w.drew _, hge, hcm, ?_, ?_⟩⟩, ⟨rfl, rfl, rfl, by simp, fun k hk _ => heap_alloc_old w.drew _ hk⟩⟩
      · simp only [Array.size_append, List.size_toArray, size_zeroCells, hzs, hown.1, ← Nat.add_mul]
        congr 1
        omega
      · simp only [Array.toList_append, hzl]
        rw [← hlen]
        exact List.take_left
    have grow : ∀ (base : Option Addr) (sCap : Nat), (Builtin.firstCells i.size n (.slice base n sCap)).run P w.drew = .ok xs.toArray w.drew → sCap < n + k →
        (Builtin.append_ #[t, tn] ty #[.slice base n sCap, .int kq k]).run P w = .ok (.slice (some ⟨w.heap.size, 0, none⟩) (n + k) (grownCap w (n + k) sCap e))
          (w.drew.alloc (.cells (xs.toArray ++ Builtin.zeroCells z.cells k ++ Builtin.zeroCells z.cells (grownCap w (n + k) sCap e - (n + k))) e)) := by
      intro base sCap hf hg
      have hn : ¬ (n + k ≤ sCap) := by omega
      have h63' : ¬ (9223372036854775807 < ((n : Int) + (k : Int))) := by omega
      have h48' : ¬ (281474976710656 < Builtin.nextslicecap (n + k) sCap * i.bytes) := by have := growslice_fits hg hbytes; omega
      simp [Builtin.append_, run_underlying ht, run_underlying htn, sizeOf, typeInfo, zeroValue, hi, hz, asInt, asIntOf, hw, hn, hneg, hns, h63', h48', h48i, Question.forced, hf, newRow, grownCap]
    rcases hown.2 with ⟨rfl, rfl⟩ | ⟨g, cap, cur, rfl, hbg, hg, hnc, hcm, hcs, htake⟩
    · have hx : xs = [] := List.eq_nil_of_length_eq_zero (by simpa using hown.1)
      subst hx
      have hgr := grown 0 (by omega)
      exact ⟨_, _, grow none 0 (run_firstCells_none w.drew i.size 0 0 0) (by omega), hgr.1, .inr ⟨rfl, hgr.2⟩, by simp [hk]⟩
    · have holds : ∀ j u, xs[j]? = some u → w.cell? ((⟨g, 0, none⟩ : Addr).add j) = some u := hown.cells (g := g) rfl
      by_cases hroom : n + k ≤ cap
      · have hfit : n * i.size + (Builtin.zeroCells z.cells k).toList.length ≤ cur.size := by
          rw [Array.length_toList, size_zeroCells, hzs, hcs, ← Nat.add_mul]; exact Nat.mul_le_mul_right _ hroom
        have h1' : ∀ u ∈ (Builtin.zeroCells z.cells k).toList, u.oneCell' = true := by rw [hzl]; exact one_repl h1 k
        have hst := run_storeCells_at P g (n * i.size) e (Builtin.zeroCells z.cells k).toList 0 cur w hg (by simpa using hfit) h1'
        simp only [Nat.add_zero] at hst
        have hr : (Builtin.append_ #[t, tn] ty #[.slice (some ⟨g, 0, none⟩) n cap, .int kq k]).run P w =
            .ok (.slice (some ⟨g, 0, none⟩) (n + k) cap) (w.setRow g (cur.toList.take (n * i.size) ++ (Builtin.zeroCells z.cells k).toList ++ cur.toList.drop (n * i.size + (Builtin.zeroCells z.cells k).toList.length)).toArray) := by
          simp [Builtin.append_, run_underlying ht, run_underlying htn, sizeOf, typeInfo, zeroValue, hi, hz, asInt, asIntOf, hw, hneg, hns, h48i, hroom, Addr.add_lit, hst]
        refine ⟨_, _, hr, ⟨hlen, .inr ⟨g, cap, _, rfl, hbg, setRow_heap w g cur _ e _ hg, hroom, hcm, ?_, ?_⟩⟩, .inl ⟨rfl, ⟨rfl, rfl, rfl, by simp [World.setRow], fun k _ hk => setRow_other w g k _ (fun e => hk (by simp [Value.ownBlock, e]))⟩⟩, by simp⟩
        · simp only [List.size_toArray, List.length_append, List.length_take, List.length_drop, Array.length_toList]
          rw [Array.length_toList] at hfit
          omega
        · rw [htake, ← hlen, hzl]
          exact List.take_left
      · have hgr := grown cap (by omega)
        exact ⟨_, _, grow _ cap (run_firstCells_some w.drew i.size n _ n cap xs hown.1 (by simpa using holds)) (by omega), hgr.1, .inr ⟨rfl, hgr.2⟩, by simp⟩

section
variable {P : Program} {o : Oper} {act : Act} {c : C} {role : Nat → Option Nat} {st : St}
variable (hs : ∀ n, R c (st.slot n) (act.tmps.getD n undef)) (hobs : ∀ id, ObOK c role id)
include hs hobs

theorem does_snil {op : BinOp} {neg : Bool} {t yt e : TypeId} {x : Operand} {sa : SA} {out : Out} (ho : o.op = .binOp op t x (.const (.slice none 0 0)) yt) (ht : P.underlying t = some (.slice e))
    (hop : (op = .eql ∧ neg = false) ∨ (op = .neq ∧ neg = true)) (hx : compA x = some sa) (he : evSnil neg [st.get sa] = some out) : Does P o act c role out := by
  have hr := compA_R hs hx
  generalize st.get sa = a at he hr
  have hrun : ∀ a l k, act.eval x = .slice a l k → (execOp act.eval o).run P c.w = .ok (.value (.bool (if neg then !a.isNone else a.isNone))) c.w := by
    intro a l k h
    have hc : act.eval (.const (.slice none 0 0)) = .slice none 0 0 := rfl
    rcases hop with ⟨rfl, rfl⟩ | ⟨rfl, rfl⟩
    · simp [execOp, ho, h, hc, eqGuard, binOp, run_equal_slice_nil c.w t e a l k ht]
    · simp [execOp, ho, h, hc, eqGuard, run_neq_slice_nil c.w t e a l k ht]
  unfold evSnil at he
  split at he <;> rename_i heq
  · simp only [List.cons.injEq, and_true] at heq; subst heq
    rw [ok_some he]
    refine Does.pure hobs (hrun none 0 0 hr) ?_
    cases neg <;> rfl
  · simp only [List.cons.injEq, and_true] at heq; subst heq
    rw [ok_some he]
    refine Does.pure hobs (hrun none 0 0 hr) ?_
    cases neg <;> rfl
  · simp only [List.cons.injEq, and_true] at heq; subst heq
    rw [ok_some he]
    obtain ⟨p, cap, e1, _⟩ := hr
    refine Does.pure hobs (hrun _ _ _ e1) ?_
    cases neg <;> rfl
  · simp only [List.cons.injEq, and_true] at heq; subst heq
    split at he
    · rename_i hn
      rw [ok_some he]
      obtain ⟨a, cap, e1, _, e3, _⟩ := hr
      cases a with
      | none => have := (e3 rfl).1; omega
      | some p =>
        refine Does.pure hobs (hrun _ _ _ e1) ?_
        cases neg <;> rfl
    · cases he
  · cases he

theorem does_appZ {x y : Operand} {args : Array Operand} {tys : Array TypeId} {t tn e : TypeId} {kn : IntKind} {i : TypeInfo} {z : List A} {zd : List D} {l : List SA} {out : Out} {d : Nat}
    (ho : o.op = .call { callee := .builtin .append, args := args, argTypes := tys }) (ha : args.toList = [x, y]) (hty : tys.toList = [t, tn]) (ht : P.underlying t = some (.slice e)) (htn : P.underlying tn = some (.int kn))
    (hi : P.info? e = some i) (hz : zeroP P e = some z) (hzd : dsOfA z = some zd) (hl : compAs [x, y] = some l) (he : evAppZ c.ob d e i.size i.bytes zd (l.map st.get) = some out) : Does P o act c role out := by
  obtain rfl : args = #[x, y] := by have := congrArg List.toArray ha; simpa using this
  obtain rfl : tys = #[t, tn] := by have := congrArg List.toArray hty; simpa using this
  obtain ⟨a, b, rfl, h1, h2⟩ := args2 hs hobs hl
  simp only [List.map_cons, List.map_nil] at he
  obtain ⟨i', zv, hi', hzv, hzR⟩ := zeroP_R (c := c) hs hobs hz
  rw [hi] at hi'; injection hi' with hi'; subst hi'
  have hzR' := dsOfA_R hzd hzR
  have hexec : ∀ v w', (Builtin.append_ #[t, tn] o.type #[act.eval x, act.eval y]).run P c.w = .ok v w' → (execOp act.eval o).run P c.w = .ok (.value v) w' := by
    intro v w' h
    simp [execOp, ho, resolve, invoke, builtin, h]
  unfold evAppZ at he
  split at he <;> rename_i heq
  · rename_i kq k
    simp only [List.cons.injEq, and_true] at heq
    obtain ⟨e1, e2⟩ := heq
    rw [e1] at h1; rw [e2] at h2
    simp only [R, RD] at h1 h2
    split at he
    · rename_i hc
      obtain ⟨c1, c2, c3, c4, c5⟩ := hc
      have hzs : zv.cells.size = i.size := by have := hzR'.length; simp at this; omega
      have hkk : (k.toNat : Int) = k := Int.toNat_of_nonneg c1
      obtain ⟨v', w', hr, hown, hwhere, hnil⟩ := run_appZ (P := P) c.w t tn o.type e i zv kn kq ht htn hi hzv hzs c3 (RDl_one hzR') (.slice none 0 0) 0 [] (World.ownsRow_nil c.w 0 e i.size) k.toNat
        (by simp only [maxLen]; omega) (by rw [Nat.zero_add]; exact c4)
      rw [hkk] at hr
      rw [← h1, ← h2] at hr
      simp only [Nat.zero_add, List.nil_append] at hown
      split at he
      · rename_i hk0
        rw [ok_some he]
        subst hk0
        have hv : v' = .slice none 0 0 := hnil.2 ⟨rfl, rfl⟩
        have hw : w' = c.w := by
          have : (Builtin.append_ #[t, tn] o.type #[.slice none 0 0, .int kq 0]).run P c.w = .ok (.slice none 0 0) c.w := by
            simp [Builtin.append_, run_underlying ht, run_underlying htn, sizeOf, typeInfo, hi, asInt, asIntOf, IntKind.wrap_i64]
          rw [h1, h2, this] at hr
          injection hr with _ hr; exact hr.symm
        subst hv; subst hw
        exact Does.pure hobs (hexec _ _ hr) rfl
      · rename_i hm
        simp only [mk, List.nil_append, Option.some.injEq] at he
        subst he
        obtain ⟨a', k', q1, q2, q3, q4, q5⟩ := own_cap hown
        cases a' with
        | none => exact absurd (q4 rfl).1 (by omega)
        | some p' =>
          obtain ⟨r1, r2, r3⟩ := q5 p' rfl
          rcases hwhere with ⟨hb, _⟩ | ⟨hb, hg⟩
          · rw [r3] at hb; simp [Value.ownBlock] at hb
          · rw [r3] at hb
            injection hb with hb
            obtain ⟨pb, po, ps⟩ := p'
            simp only at r1 r2 hb
            subst r1; subst r2; subst hb
            have hx := ext_newrow hobs (oid d 0) e i.size k.toNat none _ (w' := w') _ (v := v') q1 (Nat.le_refl _) hg hown (RDl_repl hzR' k.toNat) (by simp)
            refine ⟨_, _, _, _, _, _, hexec _ _ hr, .inl rfl, hx, ?_⟩
            refine ⟨by rw [q1]; rfl, ?_, ?_⟩
            · simp [updAll, renew, upd_same]
            · intro _ _; exact (upd_same _ _ _).symm
    · cases he
  · rename_i id ver kq k
    simp only [List.cons.injEq, and_true] at heq
    obtain ⟨e1, e2⟩ := heq
    rw [e1] at h1; rw [e2] at h2
    simp only [R, RD] at h2
    simp only [Option.bind_eq_some_iff] at he
    obtain ⟨⟨ze, zs, n, zc, cells⟩, hrow, he⟩ := he
    simp only at he
    split at he
    · rename_i hc
      obtain ⟨rfl, rfl, c1, c2, c3, c4, c5⟩ := hc
      simp only [Option.some.injEq] at he
      subst he
      have hzs : zv.cells.size = i.size := by have := hzR'.length; simp at this; omega
      have hkk : (k.toNat : Int) = k := Int.toNat_of_nonneg c1
      obtain ⟨g1, olds, g2, g3, g4, g5⟩ := row_at hs hobs h1 hrow
      obtain ⟨v', w', hr, hown, hwhere, hnil⟩ := run_appZ (P := P) c.w t tn o.type _ i zv kn kq ht htn hi hzv hzs c3 (RDl_one hzR') (c.hd id) n olds g2 k.toNat (by simp only [maxLen]; omega) c4
      rw [hkk] at hr
      rw [← g1, ← h2] at hr
      exact grown_row hs hobs h1 hrow g2 g3 g4 (RDl_repl hzR' k.toNat) (hexec _ _ hr) hown hwhere
    · cases he
  · cases he

theorem does_cut {t e : TypeId} {s : Nat} {x y : Operand} {l : List SA} {out : Out} (ho : o.op = .slice t x none (some y) none) (ht : P.underlying t = some (.slice e)) (hsz : sizeP P e = some s)
    (hl : compAs [x, y] = some l) (he : evCut c.ob s (l.map st.get) = some out) : Does P o act c role out := by
  have hslc : evSlc c.ob false s false true (l.map st.get) = some out → Does P o act c role out := fun h =>
    does_slc (lo := none) (hi := some y) hs hobs ho ht (.inr ⟨⟨e, rfl, hsz⟩, rfl⟩) (by simpa using hl) h
  obtain ⟨a, b, rfl, h1, h2⟩ := args2 hs hobs hl
  simp only [List.map_cons, List.map_nil] at he hslc
  have hrun : ∀ (a : Option Addr) (n cap : Nat) k (h : Int), act.eval x = .slice a n cap → act.eval y = .int k h → 0 ≤ h → h ≤ cap →
      (execOp act.eval o).run P c.w = .ok (.value (.slice (if cap = 0 then a else a.map (·.add 0)) h.toNat cap)) c.w := by
    intro a n cap k h hx hy h0 h1
    simp [execOp, ho, hx, hy, Instr.sliceAt, Instr.slice, Instr.sliceBounds, Instr.sliceBound, asIntOf, run_und ht, h0, h1, sizeP_run hsz]
  unfold evCut at he
  split at he <;> rename_i heq
  · rename_i k h
    simp only [List.cons.injEq, and_true] at heq
    obtain ⟨e1, e2⟩ := heq
    rw [e1] at h1; rw [e2] at h2
    simp only [R, RD] at h1 h2
    split at he
    · rename_i hh
      subst hh
      rw [ok_some he]
      exact Does.pure hobs (hrun none 0 0 k 0 h1 h2 (Int.le_refl _) (Int.le_refl _)) rfl
    · cases he
  · rename_i id ver k h
    simp only [List.cons.injEq, and_true] at heq
    obtain ⟨e1, e2⟩ := heq
    rw [e1, e2] at hslc
    rw [e1] at h1; rw [e2] at h2
    simp only [R, RD] at h2
    by_cases hlk : (c.ob id).leak = true
    · rw [if_pos hlk] at he; exact hslc he
    rw [if_neg hlk] at he
    have c3 : (c.ob id).leak = false := by simpa using hlk
    simp only [Option.bind_eq_some_iff] at he
    obtain ⟨⟨ze, zs, n, zc, cells⟩, hrow, he⟩ := he
    simp only at he
    split at he
    · rename_i hc
      obtain ⟨rfl, c1, c2⟩ := hc
      simp only [Option.some.injEq] at he
      subst he
      obtain ⟨g1, olds, g2, g3, g4, g5⟩ := row_at hs hobs h1 hrow
      obtain ⟨hob, hver⟩ := rowAt_some hrow
      obtain ⟨a', k', q1, q2, q3, q4, q5⟩ := own_cap g2
      have hr := hrun a' n k' k h (g1.trans q1) h2 c1 (by omega)
      have hle : h.toNat * zs ≤ n * zs := Nat.mul_le_mul_right _ (by omega)
      have hv : (if k' = 0 then a' else a'.map (·.add 0)) = a' := by
        split
        · rfl
        · cases a' with
          | none => rfl
          | some p =>
            obtain ⟨pb, po, ps⟩ := p
            obtain ⟨r1, r2, _⟩ := q5 _ rfl
            simp only at r1 r2; subst r1; subst r2; rfl
      rw [hv] at hr
      have hown : c.w.ownsRow 0 ze zs (.slice a' h.toNat k') h.toNat (olds.take (h.toNat * zs)) := by
        refine ⟨by rw [List.length_take, g2.1]; omega, ?_⟩
        rcases g2.2 with ⟨e3, e4⟩ | ⟨g, cap, cur, e3, hbg, hg, hnc, hcm, hcs, htake⟩
        · rw [q1] at e3
          injection e3 with e5 e6 e7
          left
          refine ⟨?_, by omega⟩
          rw [e5, e7]
          congr 1
          omega
        · rw [q1] at e3
          injection e3 with e5 e6 e7
          subst e5; subst e7
          right
          refine ⟨g, k', cur, rfl, hbg, hg, by omega, hcm, hcs, ?_⟩
          rw [← htake, List.take_take, Nat.min_eq_left hle]
      have hblk : Value.ownBlock (.slice a' h.toNat k') = (c.hd id).ownBlock := by rw [q1]; cases a' <;> rfl
      refine ⟨_, _, c.S, c.w, upd c.hd id (.slice a' h.toNat k'), role, hr, .inl rfl, ?_, ?_⟩
      · refine ext_gen hobs id (fun _ _ _ => rfl) (fun _ _ _ => rfl) ?_ (fun _ _ => rfl) (fun j hj => ⟨upd_ne _ _ hj, upd_ne _ _ hj⟩) (.inl (by simp [updAll, upd_same, hver])) rfl rfl rfl (Nat.le_refl _) ?_
        · intro b off u _ ho' hu; exact ⟨ho', hu⟩
        · intro hle'
          unfold ObOK
          simp only [updAll, upd_same]
          refine ⟨_, hown, g3.take _, ?_, ?_⟩
          · intro b hb
            rw [hblk] at hb
            have := g4 b hb
            rw [c3] at this
            simpa using this
          · intro k'' hk''
            obtain ⟨a2, e2'⟩ := g5 k'' hk''
            rw [q1] at e2'
            injection e2' with e5 e6 e7
            subst e7
            exact ⟨_, rfl⟩
      · refine ⟨by cases a' <;> rfl, ?_, ?_⟩
        · simp [updAll, upd_same]
        · intro _ _; exact (upd_same _ _ _).symm
    · cases he
  · exact hslc he
end
end Go.Vm
