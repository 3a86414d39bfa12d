/- A call of a function: what goes in, and what comes out. -/
import Derived.Test.YtejgcpankckdkaaVmRun2
set_option linter.unusedVariables false
set_option linter.unusedSectionVars false
set_option linter.unusedSimpArgs false
namespace Go.Vm

theorem isD_some {x : X} (h : isD x = true) : ∃ y, x = .d y := by
  cases x <;> first | exact ⟨_, rfl⟩ | cases h
theorem ofXs_isD (ob : Nat → Ob) (d : Nat) : ∀ (l : List X) (j : Nat), l.all isD = true → (ofXs ob d l j).2.1 = []
  | [], _, _ => rfl
  | x :: l, j, h => by
    simp only [List.all_cons, Bool.and_eq_true] at h
    obtain ⟨y, rfl⟩ := isD_some h.1
    simp only [ofXs, ofX, List.nil_append]
    exact ofXs_isD ob d l _ h.2

theorem RXs_isD {S : Nat → Nat} {w : World} : ∀ {xs : List X} {vs : List Value} {bs : List Nat}, RXs S w xs vs bs → xs.all isD = true → bs = []
  | [], _, _, ⟨_, h⟩, _ => h
  | x :: xs, vs, bs, ⟨v, r, b1, b2, e1, e2, h1, h2⟩, h => by
    simp only [List.all_cons, Bool.and_eq_true] at h
    have q := RXs_isD h2 h.2
    obtain ⟨y, rfl⟩ := isD_some h.1
    have := h1.1
    rw [e2, q, this]; rfl

/-- one parameter: what heads its objects is a lent box -/
theorem argOk_heads {S : Nat → Nat} {w : World} {x : X} {v : Value} {bs : List Nat} (h : RX S w x v bs) (ha : argOk x = true) (ob : Nat → Ob) (d j : Nat) {is : List Imp}
    (h1 : is.map (fun i => (i.id, i.ob)) = (ofX ob d x j).2.1) (h2 : is.filterMap (fun i => blockOf i.v) = bs) :
    is = [] ∨ ∃ i b, is = [i] ∧ bs = [b] ∧ blockOf i.v = some b := by
  cases x with
  | d x => left; simpa [ofX] using h1
  | box xs =>
    obtain ⟨b, cs, et, bs', e1, e2, e3, e4, e5, e6⟩ := h
    have hb := RXs_isD e3 ha
    subst hb
    simp only [List.nil_append] at e4
    right
    have hl := ofXs_isD ob d xs (j + 1) ha
    simp only [ofX, hl, List.nil_append] at h1
    cases is with
    | nil => cases h1
    | cons i is =>
      simp only [List.map_cons, List.cons.injEq, List.map_eq_nil_iff] at h1
      obtain ⟨h1, h1'⟩ := h1
      subst h1'
      rw [e4] at h2
      simp only [List.filterMap_cons, List.filterMap_nil] at h2
      refine ⟨i, b, rfl, e4, ?_⟩
      cases hbl : blockOf i.v with
      | none => rw [hbl] at h2; cases h2
      | some b' => rw [hbl] at h2; simpa using h2
  | agg xs =>
    left
    have := ofXs_isD ob d
    simp only [ofX, this xs j ha] at h1
    simpa using h1
  | _ => cases ha

/-- the parameters -/
theorem import_enter (S : Nat → Nat) (w : World) : ∀ (xs : List X) (i : Nat) (vs : List Value) (bs : List Nat), RXs S w xs vs bs → xs.all argOk = true →
    ∃ is : List Imp, is.map (fun i => (i.id, i.ob)) = (enter i xs).2 ∧ is.filterMap (fun i => blockOf i.v) = bs ∧ (∀ i ∈ is, i.ob.ver = 1 ∧ ∃ b, i.v = .pointer (some ⟨b, 0, none⟩)) ∧
      ∀ (c : C) (role : Nat → Option Nat), c.S = S → c.w = w → ImpOK c role is → (∀ j v, vs[j]? = some v → R c (slotsOf (enter i xs).1 (i + j)) v) ∧ ∀ i ∈ is, ObOK c role i.id
  | [], i, vs, bs, ⟨e, h⟩, _ => ⟨[], rfl, by simp [h], by simp, fun c role hS hw _ => ⟨by subst e; simp, by simp⟩⟩
  | x :: xs, i, vs, bs, ⟨v, r, b1, b2, e1, e2, h1, h2⟩, ha => by
    simp only [List.all_cons, Bool.and_eq_true] at ha
    obtain ⟨is, i1, i2, i3, i4, i6, i5⟩ := import_X (fun _ => {}) i S w x 0 v b1 h1
    obtain ⟨is', i1', i4', i7', i5'⟩ := import_enter S w xs (i + 1) r b2 h2 ha.2
    have hh := argOk_heads h1 ha.1 (fun _ => {}) i 0 i1 i4
    have hver := ofX_ver (fun _ => {}) i x 0
    refine ⟨is ++ is', ?_, ?_, ?_, ?_⟩
    · simp only [enter, List.map_append, i1, i1']
    · rw [List.filterMap_append, i4, i4', e2]
    · intro k hk
      rcases List.mem_append.1 hk with hk | hk
      · refine ⟨?_, ?_⟩
        · have : (k.id, k.ob) ∈ (ofX (fun _ => {}) i x 0).2.1 := by rw [← i1]; exact List.mem_map.2 ⟨k, hk, rfl⟩
          exact hver _ this
        · rcases hh with hh | ⟨k', b, hh, _, hbl⟩
          · rw [hh] at hk; cases hk
          · rw [hh] at hk
            simp only [List.mem_singleton] at hk
            subst hk
            -- the head is a pointer at a box
            cases x with
            | d x => simp [ofX] at i1; rw [i1] at hh; cases hh
            | box ys =>
              obtain ⟨b', cs, et, bs', q1, q2, q3, q4, q5, q6⟩ := h1
              obtain ⟨j1, j2⟩ := i5 ⟨S, w, fun _ => k.v, fun _ => k.ob⟩ (fun _ => some k.id) rfl rfl ⟨by intro a ha'; rw [hh] at ha'; simp only [List.mem_singleton] at ha'; subst ha'; exact ⟨rfl, rfl⟩,
                by intro a ha' _ _; rw [hh] at ha'; simp only [List.mem_singleton] at ha'; subst ha'; rfl⟩
              have ob1 := j2 k (by rw [hh]; simp)
              have hbox : ∃ cells, k.ob.o = .box cells := by
                have hm : (k.id, k.ob) ∈ (ofX (fun _ => {}) i (.box ys) 0).2.1 := by rw [← i1]; exact List.mem_map.2 ⟨k, by rw [hh]; simp, rfl⟩
                have hl := ofXs_isD (fun _ => {}) i ys 1 ha.1
                simp only [ofX, hl, List.nil_append, List.mem_singleton, renew, Prod.mk.injEq] at hm
                exact ⟨_, by rw [hm.2]⟩
              obtain ⟨cells, hbox⟩ := hbox
              unfold ObOK at ob1
              simp only [hbox] at ob1
              obtain ⟨b2, _, _, r1, _⟩ := ob1
              exact ⟨b2, r1⟩
            | agg ys =>
              exfalso
              have : (is.map fun i => (i.id, i.ob)) = [] := by
                rw [i1]
                have := ofXs_isD (fun _ => {}) i
                simp only [ofX]
                exact this ys 0 ha.1
              rw [hh] at this; cases this
            | _ => exact absurd ha.1 (by simp [argOk])
      · exact i7' k hk
    · intro c role hS hw hok
      obtain ⟨k1, k2⟩ := hok
      obtain ⟨q1, q2⟩ := i5 c role hS hw ⟨fun i hi => k1 i (List.mem_append.2 (.inl hi)), fun i hi => k2 i (List.mem_append.2 (.inl hi))⟩
      obtain ⟨q1', q2'⟩ := i5' c role hS hw ⟨fun i hi => k1 i (List.mem_append.2 (.inr hi)), fun i hi => k2 i (List.mem_append.2 (.inr hi))⟩
      refine ⟨?_, ?_⟩
      · intro j u hu
        subst e1
        simp only [enter, slotsOf]
        cases j with
        | zero =>
          simp only [List.getElem?_cons_zero, Option.some.injEq] at hu
          subst hu
          rw [if_pos (Nat.add_zero i)]
          exact q1
        | succ j =>
          simp only [List.getElem?_cons_succ] at hu
          rw [if_neg (by omega)]
          have := q1' j u hu
          rwa [show i + 1 + j = i + (j + 1) by omega] at this
      · intro k hk
        rcases List.mem_append.1 hk with hk | hk
        · exact q2 k hk
        · exact q2' k hk

theorem slotsOf_enter : ∀ (xs : List X) (i n : Nat), (n < i ∨ i + xs.length ≤ n) → slotsOf (enter i xs).1 n = .undef
  | [], _, _, _ => rfl
  | x :: xs, i, n, h => by
    simp only [enter, slotsOf]
    simp only [List.length_cons] at h
    rw [if_neg (by omega)]
    exact slotsOf_enter xs (i + 1) n (by omega)
end Go.Vm
