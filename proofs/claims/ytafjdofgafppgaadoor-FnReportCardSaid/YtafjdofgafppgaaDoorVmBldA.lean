import Derived.Test.YtafjdofgafppgaaDoorVmLayer
import Derived.Below
import Derived.Test.YtafjdofgafppgaaDoorVmRes
import Derived.Lib.Builder
import Derived.Lib.FrozenHead2
/- Contracts of the library's shelf, as contracts here: functions of plain data that write nothing that was there. -/
set_option linter.unusedVariables false
set_option linter.unusedSectionVars false
namespace Go.Vm
open Go.RowKit
variable [Gl]
theorem lentXs_d : ∀ {xs : List X} {vs : List Value}, (∀ x ∈ xs, ∃ y, x = .d y) → lentXs xs vs = []
  | [], vs, h => by cases vs <;> simp only [lentXs]
  | x :: xs, [], h => by simp only [lentXs]
  | x :: xs, v :: vs, h => by
    obtain ⟨y, rfl⟩ := h x (by simp)
    simp only [lentXs, lentX, List.nil_append]
    exact lentXs_d fun x hx => h x (by simp [hx])
/-- what such a function hands back -/
def Made (S : Nat → Nat) (w : World) (x : X) (e : Ending) (w' : World) : Prop :=
  (∃ v b1 S', e = .returned v ∧ RX S' w' x v b1 ∧ b1.Nodup ∧ (∀ b ∈ b1, w.heap.size ≤ b) ∧ (∀ b, b < w.heap.size → S' b = S b) ∧ ParOK [] x v) ∧ Below w.heap.size w w'
theorem sound_shelf {P : Program} {f : FuncId} {α : Type} {enc : α → List X} (hd : ∀ a, ∀ x ∈ enc a, ∃ y, x = .d y) {C : α → Option X} (hrun : ∀ args w, (callFunc f args).run P w = .ok (.enter f args) w)
    (h : ∀ a x S w args, C a = some x → (∃ bs, RXs S w (enc a) args.toList bs) → (∀ b, b < Gl.G → w.heap[b]? = Gl.g b) → Calls P f args w (Made S w x)) :
    Sound P f (lay enc fun a => (C a).bind fun x => some (.ret x [])) := by
  intro S w args xs bs hx hb out ho
  obtain ⟨a, rfl, ho2⟩ := lay_some ho
  obtain ⟨x, hC, e⟩ := Option.bind_eq_some_iff.mp ho2
  simp only [Option.some.injEq] at e
  subst e
  refine ⟨hrun args w, (h a x S w args hC ⟨bs, hx⟩ (fun b hb' => (hb.2.2 b hb').1)).mono ?_⟩
  rintro e w' ⟨⟨v, b1, S', h1, h2, h3, h4, h5, h6⟩, hB⟩
  refine ⟨S', hB.os, hB.tape, hB.output, hB.size, fun b hb' _ => ⟨hB.block b hb', h5 b hb'⟩, v, b1, [], h1, h2, by simpa using h3, h4, rfl, h6, ?_⟩
  rw [lentXs_d (hd a)]; exact ⟨rfl, rfl⟩
/-- a string is handed back -/
theorem made_str {S : Nat → Nat} {w : World} {l : List UInt8} {e : Ending} {w' : World} (he : e = .returned (.string ⟨l.toArray⟩)) (hB : Below w.heap.size w w') : Made S w (.d (sD l)) e w' := by
  refine ⟨⟨_, [], S, he, ⟨rfl, ?_⟩, List.nodup_nil, fun b hb => (by cases hb), fun _ _ => rfl, ?_⟩, hB⟩
  · simp only [sD, RD]
  · simp only [ParOK]
theorem made_int {S : Nat → Nat} {w : World} {k : IntKind} {n : Int} {e : Ending} {w' : World} (he : e = .returned (.int k n)) (hB : Below w.heap.size w w') : Made S w (.d (.int k n)) e w' := by
  refine ⟨⟨_, [], S, he, ⟨rfl, ?_⟩, List.nodup_nil, fun b hb => (by cases hb), fun _ _ => rfl, ?_⟩, hB⟩
  · simp only [RD]
  · simp only [ParOK]
theorem made_bool {S : Nat → Nat} {w : World} {n : Bool} {e : Ending} {w' : World} (he : e = .returned (.bool n)) (hB : Below w.heap.size w w') : Made S w (.d (.bool n)) e w' := by
  refine ⟨⟨_, [], S, he, ⟨rfl, ?_⟩, List.nodup_nil, fun b hb => (by cases hb), fun _ _ => rfl, ?_⟩, hB⟩
  · simp only [RD]
  · simp only [ParOK]
end Go.Vm

/- The methods of a strings.Builder, with the frame that a call is asked for: all but the builder's own blocks stands. -/
set_option linter.unusedVariables false
namespace Go.Vm
open Go.RowKit

/-- nothing but these blocks has changed -/
structure Only (ks : List Nat) (w w' : World) : Prop where
  os : w'.os = w.os
  tape : w'.tape = w.tape
  output : w'.output = w.output
  size : w.heap.size ≤ w'.heap.size
  block : ∀ k, k < w.heap.size → k ∉ ks → w'.heap[k]? = w.heap[k]?
theorem Only.refl (ks : List Nat) (w : World) : Only ks w w := ⟨rfl, rfl, rfl, Nat.le_refl _, fun _ _ _ => rfl⟩
theorem Only.trans {ks : List Nat} {a b c : World} (h : Only ks a b) (k : Only ks b c) : Only ks a c :=
  ⟨k.os.trans h.os, k.tape.trans h.tape, k.output.trans h.output, Nat.le_trans h.size k.size, fun j hj hn => (k.block j (Nat.lt_of_lt_of_le hj h.size) hn).trans (h.block j hj hn)⟩
theorem Only.wide {ks ks' : List Nat} {w w' : World} (h : Only ks w w') (hs : ∀ k ∈ ks, k ∈ ks') : Only ks' w w' := ⟨h.os, h.tape, h.output, h.size, fun k hk hn => h.block k hk fun hm => hn (hs k hm)⟩
theorem Only.drew {ks : List Nat} {a w : World} (h : Only ks a w) : Only ks a w.drew := ⟨h.os, h.tape, h.output, h.size, h.block⟩
theorem Only.alloc {ks : List Nat} {a w : World} (h : Only ks a w) (o : Obj) : Only ks a (w.alloc o) :=
  ⟨h.os, h.tape, h.output, Nat.le_trans h.size (by simp), fun k hk hn => (Below.heap_alloc w o k (Nat.lt_of_lt_of_le hk h.size)).trans (h.block k hk hn)⟩
theorem Only.setCell {ks : List Nat} {a w : World} (h : Only ks a w) {p : Addr} (hp : p.block ∈ ks) (u : Value) : Only ks a (w.setCell p u) := by
  have hb := (Below.refl p.block w).setCell (p := p) (Nat.le_refl _) u
  exact ⟨hb.os.trans h.os, hb.tape.trans h.tape, hb.output.trans h.output, Nat.le_trans h.size hb.size, fun k hk hn => (Below.heap_setCell w p u k fun e => hn (e ▸ hp)).trans (h.block k hk hn)⟩
theorem Only.grown {ks : List Nat} {a w w' : World} {row : Option Nat} (h : Only ks a w) (hg : w.grownBy w' row) (hr : ∀ k, row = some k → k ∈ ks) : Only ks a w' :=
  h.trans ⟨hg.os, hg.tape, hg.output, hg.size, fun k hk hn => hg.block k hk fun e => hn (hr k e.symm)⟩
theorem Only.freeze {ks : List Nat} {a w : World} (h : Only ks a w) {p : Addr} (hp : p.block ∈ ks) (n : Nat) : Only ks a (w.freeze p n) := by
  have hb : Below p.block w (w.freeze p n) := Lib.below_freeze (Below.refl _ w) (Nat.le_refl _) n
  refine ⟨hb.os.trans h.os, hb.tape.trans h.tape, hb.output.trans h.output, Nat.le_trans h.size hb.size, fun k hk hn => ?_⟩
  refine Eq.trans ?_ (h.block k hk hn)
  have hne : k ≠ p.block := fun e => hn (e ▸ hp)
  unfold World.freeze
  split
  · rfl
  · simp [Array.getElem?_modify, hne.symm]
/-- appended bytes stand where they stood, or in a block that is new -/
theorem append_string {P : Program} (w : World) (t u ty e : TypeId) (i : TypeInfo) (ht : P.underlying t = some (.slice e)) (hu : P.underlying u = some .string) (hi : P.info? e = some i) (hz : i.zero = some (.int .u8 0))
    (hsize : i.size = 1) (hby : i.bytes = 1) (v : Value) (n : Nat) (xs : List Value) (hown : w.ownsRowF 0 e 1 v n xs) (s : ByteArray) (h63 : n + s.size ≤ maxLen) (hbytes : n + s.size ≤ 140737488355328) :
    ∃ v' w', (Builtin.append_ #[t, u] ty #[v, .string s]).run P w = .ok v' w' ∧ w'.ownsRowF 0 e 1 v' (n + s.size) (xs ++ Lib.strCells s) ∧ w.grownBy w' v.ownBlock ∧ ∀ g, v'.ownBlock = some g → g < w.heap.size → v.ownBlock = some g := by
  obtain ⟨v', w', h1, h2, h3, _⟩ := Lib.run_append_own_stringF (P := P) w 0 t u ty e i ht hu hi hz hsize hby v n xs hown s h63 hbytes (Nat.zero_le _)
  refine ⟨v', w', h1, h2, h3, ?_⟩
  rcases hown.2 with ⟨rfl, rfl⟩ | ⟨g, cap, cur, fz, rfl, hbg, hg, hfz, hnc, hcm, hcs, htake⟩
  · obtain ⟨v2, w2, k1, k2, _, _⟩ := Lib.run_append_own_stringF (P := P) w w.heap.size t u ty e i ht hu hi hz hsize hby (.slice none 0 0) 0 xs ⟨hown.1, .inl ⟨rfl, rfl⟩⟩ s h63 hbytes (Nat.le_refl _)
    rw [h1] at k1
    injection k1 with k1 k3
    subst k1; subst k3
    intro g hg hlt
    have := (k2.lt g hg).1
    omega
  · have hxl : xs.length = n := by simpa using hown.1
    have hsmall : n + s.size ≤ 9223372036854775807 := by simp only [maxLen] at h63; omega
    by_cases hroom : n + s.size ≤ cap
    · have hcs' : cur.size = cap := by simpa using hcs
      have hr := Lib.run_append_room_stringF (P := P) w t u ty e i ht hu hi hsize g n cap cur fz hg (by simpa using hfz) s hroom (by omega)
      rw [h1] at hr
      injection hr with k1 _
      subst k1
      intro g' hg' _
      exact hg'
    · have holds : ∀ j u, xs[j]? = some u → w.cell? ((⟨g, 0, none⟩ : Addr).add j) = some u := hown.cells (g := g) rfl
      have hr := Lib.run_append_grow_string (P := P) w t u ty e i (.int .u8 0) ht hu hi hz ⟨g, 0, none⟩ n cap xs (by rw [hsize]; simpa using hxl) holds s (by omega) (by omega) (by rw [hby]; exact growslice_fits (by omega) (by omega))
      rw [h1] at hr
      injection hr with k1 _
      subst k1
      intro g' hg' hlt
      simp [Value.ownBlock] at hg'
      omega
theorem append_cells {P : Program} (w : World) (t ty e : TypeId) (i : TypeInfo) (z : Value) (ht : P.underlying t = some (.slice e)) (hi : P.info? e = some i) (hz : i.zero = some z)
    (hsize : i.size = 1) (hby : i.bytes = 1) (hzs : z.cells.size = 1) (v : Value) (n : Nat) (xs : List Value) (hown : w.ownsRowF 0 e 1 v n xs)
    (a : Addr) (m c : Nat) (news : List Value) (hl : news.length = m * 1) (hnews : ∀ j u, news[j]? = some u → w.cell? (a.add j) = some u) (h1' : ∀ u ∈ news, u.oneCell' = true)
    (h63 : n + m ≤ maxLen) (hbytes : (n + m) * 1 ≤ 140737488355328) :
    ∃ v' w', (Builtin.append_ #[t, t] ty #[v, .slice (some a) m c]).run P w = .ok v' w' ∧ w'.ownsRowF 0 e 1 v' (n + m) (xs ++ news) ∧ w.grownBy w' v.ownBlock ∧ ∀ g, v'.ownBlock = some g → g < w.heap.size → v.ownBlock = some g := by
  obtain ⟨v', w', h1, h2, h3, _⟩ := run_append_ownF (P := P) w 0 t ty e i z 1 1 ht hi hz hsize hby hzs (by decide) v n xs hown a m c news hl hnews h1' h63 hbytes (Nat.zero_le _)
  refine ⟨v', w', h1, h2, h3, ?_⟩
  rcases hown.2 with ⟨rfl, rfl⟩ | ⟨g, cap, cur, fz, rfl, hbg, hg, hfz, hnc, hcm, hcs, htake⟩
  · obtain ⟨v2, w2, k1, k2, _, _⟩ := run_append_ownF (P := P) w w.heap.size t ty e i z 1 1 ht hi hz hsize hby hzs (by decide) (.slice none 0 0) 0 xs ⟨hown.1, .inl ⟨rfl, rfl⟩⟩ a m c news hl hnews h1' h63 hbytes (Nat.le_refl _)
    rw [h1] at k1
    injection k1 with k1 k3
    subst k1; subst k3
    intro g hg hlt
    have := (k2.lt g hg).1
    omega
  · have hsmall : n + m ≤ 9223372036854775807 := by simp only [maxLen] at h63; omega
    by_cases hroom : n + m ≤ cap
    · have hr := run_append_roomF (P := P) w t ty e i ht hi g n cap cur fz hg (by rw [hsize]; exact hfz) a m c news (by rw [hsize]; exact hl) hnews h1' hroom (by rw [hsize, hl, hcs, ← Nat.add_mul]; exact Nat.mul_le_mul_right _ hroom)
      rw [h1] at hr
      injection hr with k1 _
      subst k1
      intro g' hg' _
      exact hg'
    · have holds : ∀ j u, xs[j]? = some u → w.cell? ((⟨g, 0, none⟩ : Addr).add j) = some u := hown.cells (g := g) rfl
      have hr := run_append_grow (P := P) w t ty e i z ht hi hz ⟨g, 0, none⟩ n cap xs (by rw [hsize]; exact hown.1) holds a m c news (by rw [hsize]; exact hl) hnews (by omega) (by omega) (by rw [hby]; exact growslice_fits (by omega) hbytes)
      rw [h1] at hr
      injection hr with k1 _
      subst k1
      intro g' hg' hlt
      simp [Value.ownBlock] at hg'
      omega
theorem wp_append_string {P : Program} {w : World} {ops : Array Oper} {rest : List Oper} {o : Oper} {a : Act} {Q : Exit → Act → World → Prop} (hgd : o.guard = none) (sl x : Operand) (t u : TypeId)
    (ho : o.op = .call { callee := .builtin .append, args := #[sl, x], argTypes := #[t, u] }) (e : TypeId) (i : TypeInfo) (ht : P.underlying t = some (.slice e)) (hu : P.underlying u = some .string) (hi : P.info? e = some i) (hz : i.zero = some (.int .u8 0))
    (hsize : i.size = 1) (hby : i.bytes = 1) (v : Value) (n : Nat) (xs : List Value) (hs : a.eval sl = v) (hown : w.ownsRowF 0 e 1 v n xs) (s : ByteArray) (hx : a.eval x = .string s) (h63 : n + s.size ≤ maxLen) (hbytes : n + s.size ≤ 140737488355328)
    (h : ∀ v' w', w'.ownsRowF 0 e 1 v' (n + s.size) (xs ++ Lib.strCells s) → w.grownBy w' v.ownBlock → (∀ g, v'.ownBlock = some g → g < w.heap.size → v.ownBlock = some g) → wpList P ops Q rest (a.put o.dst v') w') : wpList P ops Q (o :: rest) a w := by
  refine wpList_plain hgd fun K hK => ?_
  obtain ⟨v', w', hr, h2, h3, h4⟩ := append_string (P := P) w t u o.type e i ht hu hi hz hsize hby v n xs hown s h63 hbytes
  unfold Oper.wp execOp
  simp only [ho, resolve, invoke, builtin, Sem.run_bind, Sem.run_pure, Result.andThen_ok, List.map_toArray, List.map_cons, List.map_nil, hs, hx, hr]
  exact hK _ _ (h v' w' h2 h3 h4)
theorem wp_append_cells {P : Program} {w : World} {ops : Array Oper} {rest : List Oper} {o : Oper} {a : Act} {Q : Exit → Act → World → Prop} (hgd : o.guard = none) (sl x : Operand) (t : TypeId)
    (ho : o.op = .call { callee := .builtin .append, args := #[sl, x], argTypes := #[t, t] }) (e : TypeId) (i : TypeInfo) (z : Value) (ht : P.underlying t = some (.slice e)) (hi : P.info? e = some i) (hz : i.zero = some z)
    (hsize : i.size = 1) (hby : i.bytes = 1) (hzs : z.cells.size = 1) (v : Value) (n : Nat) (xs : List Value) (hs : a.eval sl = v) (hown : w.ownsRowF 0 e 1 v n xs)
    (ad : Addr) (m c : Nat) (news : List Value) (hx : a.eval x = .slice (some ad) m c) (hl : news.length = m * 1) (hnews : ∀ j u, news[j]? = some u → w.cell? (ad.add j) = some u) (h1 : ∀ u ∈ news, u.oneCell' = true)
    (h63 : n + m ≤ maxLen) (hbytes : (n + m) * 1 ≤ 140737488355328)
    (h : ∀ v' w', w'.ownsRowF 0 e 1 v' (n + m) (xs ++ news) → w.grownBy w' v.ownBlock → (∀ g, v'.ownBlock = some g → g < w.heap.size → v.ownBlock = some g) → wpList P ops Q rest (a.put o.dst v') w') : wpList P ops Q (o :: rest) a w := by
  refine wpList_plain hgd fun K hK => ?_
  obtain ⟨v', w', hr, h2, h3, h4⟩ := append_cells (P := P) w t o.type e i z ht hi hz hsize hby hzs v n xs hown ad m c news hl hnews h1 h63 hbytes
  unfold Oper.wp execOp
  simp only [ho, resolve, invoke, builtin, Sem.run_bind, Sem.run_pure, Result.andThen_ok, List.map_toArray, List.map_cons, List.map_nil, hs, hx, hr]
  exact hK _ _ (h v' w' h2 h3 h4)
/-- its pointer, its bytes' head, where it stands -/
def bldBlk (T : TypeId) (b : Nat) (p v : Value) (w : World) : Prop := w.heap[b]? = some (.cells #[p, v] T (0, 0))
theorem put_bld {T : TypeId} {b : Nat} {p v v' : Value} {w : World} (hb : bldBlk T b p v w) : bldBlk T b p v' (w.setCell ⟨b, 1, none⟩ v') := by
  have hb' : w.heap[b]? = some (.cells #[p, v] T (0, 0)) := hb
  simp [bldBlk, World.setCell, Array.getElem?_modify, hb']
theorem own_put {e : TypeId} {n : Nat} {v : Value} {xs : List Value} {w : World} (h : w.ownsRowF 0 e 1 v n xs) {a : Addr} (u : Value) (hne : v.ownBlock ≠ some a.block) : (w.setCell a u).ownsRowF 0 e 1 v n xs :=
  ownsRowF_keep h fun g hg => Below.heap_setCell w a u g fun e => hne (by rw [hg, e])
theorem own_ne {e T : TypeId} {b n : Nat} {v : Value} {xs : List Value} {w : World} {cs : Array Value} (h : w.ownsRowF 0 e 1 v n xs) (hb : w.heap[b]? = some (.cells cs T (0, 0))) (hne : T ≠ e) : v.ownBlock ≠ some b := by
  rcases h.2 with ⟨rfl, _⟩ | ⟨g, cap, cur, fz, rfl, _, hg, _⟩
  · simp [Value.ownBlock]
  · intro h
    simp only [Value.ownBlock, Option.some.injEq] at h
    subst h
    rw [hb] at hg
    injection hg with hg
    injection hg with _ hg _
    exact hne hg
theorem own_froze {e : TypeId} {g cap n : Nat} {xs : List Value} {w : World} (h : w.ownsRowF 0 e 1 (.slice (some ⟨g, 0, none⟩) n cap) n xs) : (w.drew.freeze ⟨g, 0, none⟩ n).ownsRowF 0 e 1 (.slice (some ⟨g, 0, none⟩) n cap) n xs := by
  refine ⟨h.1, ?_⟩
  rcases h.2 with ⟨hv, _⟩ | ⟨g', cap', cur, fz, hv, hbg, hg, hfz, rest⟩
  · cases hv
  · injection hv with ha _ hcap
    injection ha with ha
    injection ha with hgg _ _
    subst hgg; subst hcap
    have hg' : w.drew.heap[g]? = some (.cells cur e fz) := hg
    unfold World.freeze
    split
    · exact .inr ⟨g, _, cur, fz, rfl, hbg, hg', hfz, rest⟩
    · obtain ⟨lo, hi⟩ := fz
      refine .inr ⟨g, _, cur, (if lo == hi then (0, 0 + n) else (min lo 0, max hi (0 + n))), rfl, hbg, by simp [Array.getElem?_modify, hg'], ?_, rest⟩
      simp only at hfz
      split <;> simp <;> omega
end Go.Vm

/- The methods of a strings.Builder, as contracts here. -/
set_option linter.unusedVariables false
set_option linter.unusedSectionVars false
set_option linter.unusedSimpArgs false
namespace Go.Vm
open Go.RowKit
variable [Gl]

theorem bld_out {T e : TypeId} {S : Nat → Nat} {w w' : World} {b : Nat} {p p' v v' rv : Value} {l' : List UInt8} {x : X} (hb : bldBlk T b p v w) (hS : ∀ k ∈ b :: v.ownBlock.toList, S k = 0)
    (hx : ∀ S', RX S' w' x rv []) (hpx : ∀ ls, ParOK ls x rv) (hp' : p' = .pointer none ∨ p' = .pointer (some ⟨b, 0, none⟩)) (hb' : bldBlk T b p' v' w') (hown : w'.ownsRowF 0 e 1 v' l'.length (Lib.byteCells l')) (hne : v'.ownBlock ≠ some b)
    (hnew : ∀ g, v'.ownBlock = some g → g < w.heap.size → v.ownBlock = some g) (ho : Only (b :: v.ownBlock.toList) w w') :
    ∃ S', w'.os = w.os ∧ w'.tape = w.tape ∧ w'.output = w.output ∧ w.heap.size ≤ w'.heap.size ∧
      (∀ k, k < w.heap.size → k ∉ b :: v.ownBlock.toList → w'.heap[k]? = w.heap[k]? ∧ S' k = S k) ∧
      OutOK w [Lent.res (.bld T e) (.pointer (some ⟨b, 0, none⟩))] S' w' (.returned rv) (.ret x [[sD l']]) := by
  have hbt : w.heap[b]? = some (.cells #[p, v] T (0, 0)) := hb
  have hbt' : w'.heap[b]? = some (.cells #[p', v'] T (0, 0)) := hb'
  have f1 : (RK.bld T e).foot w (.pointer (some ⟨b, 0, none⟩)) = b :: v.ownBlock.toList := by simp only [RK.foot, hbt, bufOf]; rfl
  have f2 : (RK.bld T e).foot w' (.pointer (some ⟨b, 0, none⟩)) = b :: v'.ownBlock.toList := by simp only [RK.foot, hbt', bufOf]; rfl
  have hlt : b < w.heap.size := lt_heap hbt
  have hl : (Lib.byteCells l').length = l'.length := by simp [Lib.byteCells]
  refine ⟨fun k => if k < w.heap.size then S k else 0, ho.os, ho.tape, ho.output, ho.size, fun k hk hn => ⟨ho.block k hk hn, if_pos hk⟩, rv, [], [Lent.res (.bld T e) (.pointer (some ⟨b, 0, none⟩))], rfl, hx _, ?_, by simp, ?_, hpx _, ?_⟩
  · simp only [List.nil_append, List.flatMap_cons, List.flatMap_nil, List.append_nil, newB, f2]
    have hnd : (b :: v'.ownBlock.toList).Nodup := by
      cases hv : v'.ownBlock with
      | none => simp
      | some g => simp; rintro rfl; exact hne hv
    exact hnd.filter _
  · refine ⟨_, _, rfl, ⟨sD l', [.string ⟨l'.toArray⟩], rfl, ⟨b, _, rfl, rfl, bld_of hp' hbt' (by rw [hl]; simpa using hown) hne⟩, ⟨_, _, rfl, by simp only [sD, RD], rfl⟩, ?_⟩, rfl⟩
    intro k hk
    rw [f2] at hk
    show (if k < w.heap.size then S k else 0) = 0
    by_cases hkl : k < w.heap.size
    · rw [if_pos hkl]
      rcases List.mem_cons.1 hk with rfl | hk
      · exact hS _ (by simp)
      · exact hS k (List.mem_cons_of_mem _ (by rw [hnew k (by simpa using hk) hkl]; simp))
    · rw [if_neg hkl]
  · refine ⟨_, _, _, _, rfl, rfl, ⟨rfl, ?_⟩, rfl, rfl⟩
    intro k hk hkl
    rw [f2] at hk
    rw [f1]
    rcases List.mem_cons.1 hk with rfl | hk
    · simp
    · exact List.mem_cons_of_mem _ (by rw [hnew k (by simpa using hk) hkl]; simp)
/-- a builder that comes in -/
theorem bld_in {T e : TypeId} {S : Nat → Nat} {w : World} {l : List UInt8} {r : List X} {vs : List Value} {bs : List Nat} (h : RXs S w (.res (.bld T e) (sD l) :: r) vs bs) (hr : ∀ x ∈ r, ∃ y, x = .d y) :
    ∃ b p v us, vs = .pointer (some ⟨b, 0, none⟩) :: us ∧ RXs S w r us [] ∧ (p = .pointer none ∨ p = .pointer (some ⟨b, 0, none⟩)) ∧ bldBlk T b p v w ∧ w.ownsRowF 0 e 1 v l.length (Lib.byteCells l) ∧ v.ownBlock ≠ some b ∧ bs = b :: v.ownBlock.toList ∧ ∀ k ∈ b :: v.ownBlock.toList, S k = 0 := by
  obtain ⟨v0, us, b1, b2, rfl, rfl, ⟨ws, ⟨b, s, rfl, rfl, hB⟩, hd, rfl, hS⟩, h2⟩ := h
  have hnil : ∀ {r : List X} {us : List Value} {b2 : List Nat}, (∀ x ∈ r, ∃ y, x = .d y) → RXs S w r us b2 → b2 = [] := by
    intro r
    induction r with
    | nil => intro us b2 _ h; exact h.2
    | cons x r ih =>
      intro us b2 hr ⟨v, t, c1, c2, _, e2, h1, h2⟩
      obtain ⟨y, rfl⟩ := hr x (by simp)
      obtain ⟨rfl, _⟩ := h1
      rw [e2, ih (fun x hx => hr x (by simp [hx])) h2]; rfl
  have hb2 := hnil hr h2
  subst hb2
  obtain ⟨_, _, e1, hs, e2⟩ := hd
  simp only [List.cons.injEq] at e1
  obtain ⟨rfl, rfl⟩ := e1
  simp only [sD, RD] at hs
  injection hs with hs
  subst hs
  obtain ⟨p, v, hp, k1, k2, k3, k4⟩ := bld_parts hB
  have hl : (Lib.byteCells l).length = l.length := by simp [Lib.byteCells]
  refine ⟨b, p, v, us, rfl, h2, hp, k1, by simpa [hl] using k2, k3, by rw [k4]; simp, fun k hk => hS k (by rw [k4]; exact hk)⟩
end Go.Vm

