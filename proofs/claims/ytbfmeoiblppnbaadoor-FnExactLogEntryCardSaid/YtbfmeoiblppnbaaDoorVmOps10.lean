/- Each operation of the model does what the abstract machine says: rows made and appended to. -/
import Derived.Test.YtbfmeoiblppnbaaDoorVmOps9
set_option linter.unusedVariables false
set_option linter.unusedSectionVars false
set_option linter.unusedSimpArgs false
namespace Go.Vm

/-- an append, and where the new row lies -/
theorem run_app {P : Program} (w : World) (t ty e : TypeId) (i : TypeInfo) (z : Value) (ht : P.underlying t = some (.slice e)) (hi : P.info? e = some i) (hz : i.zero = some z)
    (hzs : z.cells.size = i.size) (hsz : 0 < i.size) (v : Value) (n : Nat) (xs : List Value) (hown : w.ownsRow 0 e i.size v n xs)
    (a : Option Addr) (m c : Nat) (hna : a = none → m = 0 ∧ c = 0) (news : List Value) (hl : news.length = m * i.size) (hnews : ∀ q, a = some q → ∀ j u, news[j]? = some u → w.cell? (q.add j) = some u) (h1 : ∀ u ∈ news, u.oneCell' = true)
    (h63 : n + m ≤ maxLen) (hbytes : (n + m) * i.bytes ≤ 140737488355328) :
    ∃ v' w', (Builtin.append_ #[t, t] ty #[v, .slice a m c]).run P w = .ok v' w' ∧ w'.ownsRow 0 e i.size v' (n + m) (xs ++ news) ∧
      ((v'.ownBlock = v.ownBlock ∧ w.grownBy w' v.ownBlock) ∨ (v'.ownBlock = some w.heap.size ∧ w.grownBy w' none)) ∧ (v' = .slice none 0 0 ↔ v = .slice none 0 0 ∧ m = 0) := by
  cases a with
  | none =>
    obtain ⟨rfl, rfl⟩ := hna rfl
    have : news = [] := List.eq_nil_of_length_eq_zero (by simpa using hl)
    subst this
    refine ⟨v, w, run_append_owned_none w 0 t ty e i i.size ht hi v n xs hown, by simpa using hown, .inl ⟨rfl, ⟨rfl, rfl, rfl, Nat.le_refl _, fun _ _ _ => rfl⟩⟩, by simp⟩
  | some a =>
    have hnews := hnews a rfl
    have hsmall : n + m ≤ 9223372036854775807 := by simp only [maxLen] at h63; omega
    have hlen : (xs ++ news).length = (n + m) * i.size := by rw [List.length_append, hown.1, hl, Nat.add_mul]
    have grown : ∀ (old : Nat), old < n + m →
        (w.drew.alloc (.cells (xs.toArray ++ news.toArray ++ Builtin.zeroCells z.cells (grownCap w (n + m) old e - (n + m))) e)).ownsRow 0 e i.size
          (.slice (some ⟨w.heap.size, 0, none⟩) (n + m) (grownCap w (n + m) old e)) (n + m) (xs ++ news) ∧
        w.grownBy (w.drew.alloc (.cells (xs.toArray ++ news.toArray ++ Builtin.zeroCells z.cells (grownCap w (n + m) old e - (n + m))) e)) none := by
      intro old ho
      have hge := grownCap_ge w (n + m) old e
      have hcm : grownCap w (n + m) old e ≤ maxLen := grownCap_le_maxLen w (n + m) old e h63
      refine ⟨⟨hlen, .inr ⟨w.heap.size, _, _, rfl, Nat.zero_le _, heap_alloc_new w.drew _, hge, hcm, ?_, ?_⟩⟩, ⟨rfl, rfl, rfl, by simp, fun k hk _ => heap_alloc_old w.drew _ hk⟩⟩
      · simp only [Array.size_append, List.size_toArray, size_zeroCells, hzs, hown.1, hl, ← Nat.add_mul]
        congr 1
        omega
      · simp only [Array.toList_append, List.append_assoc]
        rw [← List.append_assoc, ← hlen]
        exact List.take_left
    rcases hown.2 with ⟨rfl, rfl⟩ | ⟨g, cap, cur, rfl, hbg, hg, hnc, hcm, hcs, htake⟩
    · have hx : xs = [] := List.eq_nil_of_length_eq_zero (by simpa using hown.1)
      subst hx
      by_cases hm : m = 0
      · subst hm
        have hn : news = [] := List.eq_nil_of_length_eq_zero (by simpa using hl)
        subst hn
        refine ⟨.slice none 0 0, w, ?_, World.ownsRow_nil w 0 e i.size, .inl ⟨rfl, ⟨rfl, rfl, rfl, Nat.le_refl _, fun _ _ _ => rfl⟩⟩, by simp⟩
        simp [Builtin.append_, run_underlying ht, sizeOf, typeInfo, hi, Builtin.lenOf, Builtin.firstCells, loadCells, loadCellsFrom]
      · have hr := run_append_nil (P := P) w t ty e i z ht hi hz a m c news hl hnews (by omega) (by omega) (by have hb := hbytes; simp only [Nat.zero_add] at hb; omega)
        have hgr := grown 0 (by omega)
        simp only [Nat.zero_add, List.nil_append, Array.empty_append] at hgr ⊢
        exact ⟨_, _, hr, hgr.1, .inr ⟨rfl, hgr.2⟩, by simp [hm]⟩
    · by_cases hroom : n + m ≤ cap
      · have hfit : n * i.size + news.length ≤ cur.size := by rw [hl, hcs, ← Nat.add_mul]; exact Nat.mul_le_mul_right _ hroom
        have hr := run_append_room (P := P) w t ty e i ht hi g n cap cur hg a m c news hl hnews h1 hroom hfit
        refine ⟨_, _, hr, ⟨hlen, .inr ⟨g, cap, _, rfl, hbg, setRow_heap w g cur _ e _ hg, hroom, hcm, ?_, ?_⟩⟩, .inl ⟨rfl, ⟨rfl, rfl, rfl, by simp [World.setRow], fun k _ hk => setRow_other w g k _ (fun e => hk (by simp [Value.ownBlock, e]))⟩⟩, by simp⟩
        · simp only [List.size_toArray, List.length_append, List.length_take, List.length_drop, Array.length_toList]
          omega
        · rw [htake, ← hlen]
          exact List.take_left
      · have holds : ∀ j u, xs[j]? = some u → w.cell? ((⟨g, 0, none⟩ : Addr).add j) = some u := hown.cells (g := g) rfl
        have hr := run_append_grow (P := P) w t ty e i z ht hi hz ⟨g, 0, none⟩ n cap xs hown.1 holds a m c news hl hnews (by omega) (by omega) (growslice_fits (by omega) hbytes)
        have hgr := grown cap (by omega)
        exact ⟨_, _, hr, hgr.1, .inr ⟨rfl, hgr.2⟩, by simp⟩

section
variable {P : Program} {o : Oper} {act : Act} {c : C} {role : Nat → Option Nat} {st : St}
variable (hs : ∀ n, R c (st.slot n) (act.tmps.getD n undef)) (hobs : ∀ id, ObOK c role id)
include hs hobs

/-- a row that was appended to -/
theorem grown_row {id ver n m sz : Nat} {e : TypeId} {zc : Option Nat} {cells xs : List D} {olds news : List Value} {u v' : Value} {w' : World}
    (h1 : R c (.row id ver) u) (hrow : rowAt c.ob id ver = some (e, sz, n, zc, cells)) (g2 : c.w.ownsRow 0 e sz (c.hd id) n olds) (g3 : RDl c.S c.w cells olds)
    (g4 : ∀ b, (c.hd id).ownBlock = some b → role b = some id ∧ c.S b = if (c.ob id).leak then n * sz else 0) (f5 : RDl c.S c.w xs news)
    (hexec : (execOp act.eval o).run P c.w = .ok (.value v') w') (hown : w'.ownsRow 0 e sz v' (n + m) (olds ++ news))
    (hwhere : (v'.ownBlock = (c.hd id).ownBlock ∧ c.w.grownBy w' (c.hd id).ownBlock) ∨ (v'.ownBlock = some c.w.heap.size ∧ c.w.grownBy w' none)) :
    Does P o act c role (.val (.row id (ver + 1)) [(id, { ver := ver + 1, o := .row e sz (n + m) none (cells ++ xs), leak := (c.ob id).leak })]) := by
  obtain ⟨hob, hver⟩ := rowAt_some hrow
  have hlt : ∀ b, (c.hd id).ownBlock = some b → b < c.w.heap.size := fun b hb => (g2.lt b hb).2
  obtain ⟨a', k', q1, q2, q3, q4, q5⟩ := own_cap hown
  -- where the new row lies, and what becomes of the marks
  refine ⟨_, v', fun b => if v'.ownBlock = some b then (if (c.ob id).leak then (n + m) * sz else 0) else c.S b, w', upd c.hd id v',
    fun b => if v'.ownBlock = some b then some id else role b, hexec, .inl rfl, ?_, ?_⟩
  · have hgr : c.w.grownBy w' (c.hd id).ownBlock := by
      rcases hwhere with ⟨_, hg⟩ | ⟨_, hg⟩
      · exact hg
      · exact ⟨hg.os, hg.tape, hg.output, hg.size, fun b hb _ => hg.block b hb (by simp)⟩
    have hvb : ∀ b, v'.ownBlock = some b → b < c.w.heap.size → (c.hd id).ownBlock = some b := by
      intro b hb hl
      rcases hwhere with ⟨h, _⟩ | ⟨h, _⟩
      · rw [← h]; exact hb
      · rw [hb] at h; injection h with h; omega
    refine ext_gen hobs id ?_ ?_ ?_ ?_ ?_ ?_ hgr.os hgr.tape hgr.output hgr.size ?_
    · intro b hb hr'
      have : v'.ownBlock ≠ some b := fun h => hr' (g4 b (hvb b h hb)).1
      simp [this]
    · intro b hb hr'
      exact hgr.block b hb (fun h => hr' (g4 b h.symm).1)
    · intro b off u hr' ho' hu
      have hl := World.block_lt_of_cell? c.w ⟨b, off, none⟩ hu
      simp only at hl
      by_cases hb : (c.hd id).ownBlock = some b
      · have hS := (g4 b hb).2
        rw [hS] at ho'
        split at ho'
        · rename_i hlk
          have hxl := g2.1
          have hold : olds[off]? = some u := by
            have := g2.cells hb off
            cases h : olds[off]? with
            | none => rw [List.getElem?_eq_none_iff] at h; omega
            | some u' =>
              have := this u' h
              rw [Addr.add_mk, Nat.zero_add] at this
              rw [hu] at this; exact this.symm
          rcases hwhere with ⟨h, _⟩ | ⟨h, hg⟩
          · have hb' : v'.ownBlock = some b := by rw [h]; exact hb
            refine ⟨?_, ?_⟩
            · simp only [hb', if_true, hlk]; rw [Nat.add_mul]; omega
            · have := hown.cells hb' off u (by rw [List.getElem?_append_left (by omega)]; exact hold)
              rw [Addr.add_mk, Nat.zero_add] at this; exact this
          · have hb' : v'.ownBlock ≠ some b := by rw [h]; simp; omega
            refine ⟨?_, ?_⟩
            · simp only [hb', if_false]; rw [hS]; simp only [hlk, if_true]; exact ho'
            · rw [World.cell?_of_block (w := c.w) (hg.block b hl (by simp))]; exact hu
        · omega
      · have hb' : v'.ownBlock ≠ some b := fun h => hb (hvb b h hl)
        refine ⟨by simp only [hb', if_false]; exact ho', ?_⟩
        rw [World.cell?_of_block (w := c.w) (hgr.block b hl (fun h => hb h.symm))]; exact hu
    · intro b hb
      by_cases h : v'.ownBlock = some b
      · simp only [h, if_true]; exact (g4 b (hvb b h hb)).1.symm
      · simp only [h, if_false]
    · exact fun j hj => ⟨upd_ne _ _ hj, upd_ne _ _ hj⟩
    · left; simp [updAll, upd_same, hver]
    · intro hle
      unfold ObOK
      simp only [updAll, upd_same]
      refine ⟨olds ++ news, hown, (RDl.mono hle.stab _ _ g3).append (RDl.mono hle.stab _ _ f5), ?_, by simp⟩
      intro b hb
      simp [hb]
  · refine ⟨by rw [q1]; rfl, ?_, ?_⟩
    · simp [updAll, upd_same]
    · intro _ _; exact (upd_same _ _ _).symm

theorem does_app {x y : Operand} {args : Array Operand} {tys : Array TypeId} {t e : TypeId} {i : TypeInfo} {z : Value} {l : List SA} {out : Out} {d : Nat}
    (ho : o.op = .call { callee := .builtin .append, args := args, argTypes := tys }) (ha : args.toList = [x, y]) (hty : tys.toList = [t, t]) (ht : P.underlying t = some (.slice e))
    (hi : P.info? e = some i) (hz : i.zero = some z) (hzs : z.cells.size = i.size) (hl : compAs [x, y] = some l) (he : evApp c.ob d e i.size i.bytes (l.map st.get) = some out) : Does P o act c role out := by
  obtain rfl : args = #[x, y] := by have := congrArg List.toArray ha; simpa using this
  obtain rfl : tys = #[t, t] := by have := congrArg List.toArray hty; simpa using this
  obtain ⟨a, b, rfl, h1, h2⟩ := args2 hs hobs hl
  simp only [List.map_cons, List.map_nil] at he
  have hexec : ∀ v w', (Builtin.append_ #[t, t] o.type #[act.eval x, act.eval y]).run P c.w = .ok v w' → (execOp act.eval o).run P c.w = .ok (.value v) w' := by
    intro v w' h
    simp [execOp, ho, resolve, invoke, builtin, h]
  unfold evApp at he
  split at he <;> rename_i heq
  · simp only [List.cons.injEq, and_true] at heq
    obtain ⟨e1, e2⟩ := heq
    rw [e1] at h1; rw [e2] at h2
    simp only [R] at h1
    simp only [Option.bind_eq_some_iff] at he
    obtain ⟨⟨q, ids⟩, hsn, ⟨m, xs⟩, hq, he⟩ := he
    · split at he
      · rename_i hc
        obtain ⟨c1, c2, c3, c4⟩ := hc
        obtain ⟨p, k, news, f1, f2, f3, f4, f5⟩ := snap_cells hobs hsn hq h2
        obtain ⟨v', w', hr, hown, hwhere, hnil⟩ := run_app (P := P) c.w t o.type e i z ht hi hz hzs c2 (.slice none 0 0) 0 [] (World.ownsRow_nil c.w 0 e i.size) p m k
          (fun h => ⟨(f3 h).1, (f3 h).2.1⟩) news (by rw [f5.length]; exact c1) f4 (RDl_one f5) (by simp [maxLen]; omega) (by rw [Nat.zero_add]; exact c3)
        rw [← h1, ← f1] at hr
        simp only [Nat.zero_add, List.nil_append] at hown
        split at he
        · rename_i hm
          rw [ok_some he]
          have hv : v' = .slice none 0 0 := hnil.2 ⟨rfl, hm⟩
          have hw : w' = c.w := by
            subst hm
            have hn : news = [] := List.eq_nil_of_length_eq_zero (by rw [f5.length, c1]; simp)
            cases p with
            | none =>
              obtain ⟨_, rfl, _⟩ := f3 rfl
              have := run_append_owned_none (P := P) c.w 0 t o.type e i i.size ht hi (.slice none 0 0) 0 [] (World.ownsRow_nil c.w 0 e i.size)
              rw [h1, f1, this] at hr
              injection hr with _ hr; exact hr.symm
            | some p =>
              have : (Builtin.append_ #[t, t] o.type #[.slice none 0 0, .slice (some p) 0 k]).run P c.w = .ok (.slice none 0 0) c.w := by
                simp [Builtin.append_, run_underlying ht, sizeOf, typeInfo, hi, Builtin.lenOf, Builtin.firstCells, loadCells, loadCellsFrom]
              rw [h1, f1, this] at hr
              injection hr with _ hr; exact hr.symm
          subst hv; subst hw
          exact Does.pure hobs (hexec _ _ hr) rfl
        · rename_i hm
          simp only [mk, List.nil_append, Option.some.injEq] at he
          subst he
          obtain ⟨a', k', q1, q2, q3, q4, q5⟩ := own_cap hown
          cases a' with
          | none => exact absurd (q4 rfl).1 hm
          | some p' =>
            obtain ⟨r1, r2, r3⟩ := q5 p' rfl
            rcases hwhere with ⟨hb, _⟩ | ⟨hb, hg⟩
            · rw [r3] at hb; simp [Value.ownBlock] at hb
            · rw [r3] at hb
              injection hb with hb
              obtain ⟨pb, po, ps⟩ := p'
              simp only at r1 r2 hb
              subst r1; subst r2; subst hb
              have hx := ext_newrow hobs (oid d 0) e i.size m none xs (w' := w') news (v := v') q1 (Nat.le_refl _) hg hown f5 (by simp)
              refine ⟨_, _, _, _, _, _, hexec _ _ hr, .inl rfl, hx, ?_⟩
              refine ⟨by rw [q1]; rfl, ?_, ?_⟩
              · simp [updAll, renew, upd_same]
              · intro _ _; exact (upd_same _ _ _).symm
      · cases he
  · rename_i id ver y'
    simp only [List.cons.injEq, and_true] at heq
    obtain ⟨e1, e2⟩ := heq
    rw [e1] at h1; rw [e2] at h2
    simp only [Option.bind_eq_some_iff] at he
    obtain ⟨⟨ze, zs, n, zc, cells⟩, hrow, ⟨q, ids⟩, hsn, ⟨m, xs⟩, hq, he⟩ := he
    simp only at he
    · split at he
      · rename_i hc
        obtain ⟨rfl, rfl, c2, c1, c3, c4⟩ := hc
        simp only [Option.some.injEq] at he
        subst he
        obtain ⟨p, k, news, f1, f2, f3, f4, f5⟩ := snap_cells hobs hsn hq h2
        obtain ⟨g1, olds, g2, g3, g4, g5⟩ := row_at hs hobs h1 hrow
        obtain ⟨hob, hver⟩ := rowAt_some hrow
        obtain ⟨v', w', hr, hown, hwhere, hnil⟩ := run_app (P := P) c.w t o.type _ i z ht hi hz hzs c2 (c.hd id) n olds g2 p m k
          (fun h => ⟨(f3 h).1, (f3 h).2.1⟩) news (by rw [f5.length]; exact c1) f4 (RDl_one f5) (by simp [maxLen]; omega) c3
        rw [← g1, ← f1] at hr
        have hlt : ∀ b, (c.hd id).ownBlock = some b → b < c.w.heap.size := fun b hb => (g2.lt b hb).2
        obtain ⟨a', k', q1, q2, q3, q4, q5⟩ := own_cap hown
        exact grown_row hs hobs h1 hrow g2 g3 g4 f5 (hexec _ _ hr) hown hwhere
      · cases he
  · cases he
end
end Go.Vm
