/- One object turns, and all else stays. -/
import Derived.Test.YtbfmeoiblppnbaaVmOps4
set_option linter.unusedVariables false
set_option linter.unusedSectionVars false
set_option linter.unusedSimpArgs false
namespace Go.Vm

theorem lt_of_heap {w : World} {b : Nat} {x : Obj} (h : w.heap[b]? = some x) : b < w.heap.size := (Array.getElem?_eq_some_iff.1 h).1

theorem ownsRow_keep {w w' : World} {e sz n : Nat} {v : Value} {xs : List Value} (h : w.ownsRow 0 e sz v n xs) (hb : ∀ b, v.ownBlock = some b → b < w.heap.size → w'.heap[b]? = w.heap[b]?) :
    w'.ownsRow 0 e sz v n xs := by
  refine ⟨h.1, ?_⟩
  rcases h.2 with hn | ⟨g, cap, cur, rfl, h1, h2, rest⟩
  · exact .inl hn
  · exact .inr ⟨g, cap, cur, rfl, h1, by rw [hb g rfl (lt_of_heap h2)]; exact h2, rest⟩

theorem ObOK.keep {c c' : C} {role role' : Nat → Option Nat} (hle : Le c c') (id : Nat) (h : ObOK c role id) (e1 : c'.ob id = c.ob id) (e2 : c'.hd id = c.hd id)
    (e3 : ∀ b, role b = some id → b < c.w.heap.size → c'.w.heap[b]? = c.w.heap[b]? ∧ c'.S b = c.S b ∧ role' b = some id) : ObOK c' role' id := by
  unfold ObOK at h ⊢
  rw [e1]
  cases ho : (c.ob id).o with
  | dead => trivial
  | box cells =>
    rw [ho] at h
    obtain ⟨b, cs, et, h1, h2, h3, h4, h5, h6⟩ := h
    obtain ⟨a1, a2, a3⟩ := e3 b h6 (lt_of_heap h2)
    exact ⟨b, cs, et, by rw [e2]; exact h1, by rw [a1]; exact h2, Rl.mono hle cells _ h3, h4, by rw [a2]; exact h5, a3⟩
  | row e size n cap cells =>
    rw [ho] at h
    obtain ⟨xs, h1, h2, h3, h4⟩ := h
    have lt : ∀ b, (c.hd id).ownBlock = some b → b < c.w.heap.size := fun b hb => (h1.lt b hb).2
    refine ⟨xs, ?_, RDl.mono hle.stab cells _ h2, ?_, fun k hk => by rw [e2]; exact h4 k hk⟩
    · rw [e2]; exact ownsRow_keep h1 fun b hb hl => (e3 b (h3 b hb).1 hl).1
    · intro b hb
      rw [e2] at hb
      obtain ⟨a1, a2, a3⟩ := e3 b (h3 b hb).1 (lt b hb)
      exact ⟨a3, by rw [a2]; exact (h3 b hb).2⟩
  | res k x =>
    rw [ho] at h
    obtain ⟨vs, h1, h2, h3⟩ := h
    obtain ⟨g1, g2⟩ := h1.keep fun b hb => (e3 b (h3 b hb).1 (h1.lt b hb)).1
    refine ⟨vs, by rw [e2]; exact g1, RDl.mono hle.stab _ _ h2, ?_⟩
    rw [e2, g2]
    intro b hb
    obtain ⟨a1, a2, a3⟩ := e3 b (h3 b hb).1 (h1.lt b hb)
    exact ⟨a3, by rw [a2]; exact (h3 b hb).2⟩

theorem ext_gen {c c' : C} {role role' : Nat → Option Nat} (hobs : ∀ id, ObOK c role id) (id : Nat)
    (hS : ∀ b, b < c.w.heap.size → role b ≠ some id → c'.S b = c.S b)
    (hheap : ∀ b, b < c.w.heap.size → role b ≠ some id → c'.w.heap[b]? = c.w.heap[b]?)
    (hstab : ∀ b o v, role b = some id → o < c.S b → c.w.cell? ⟨b, o, none⟩ = some v → o < c'.S b ∧ c'.w.cell? ⟨b, o, none⟩ = some v)
    (hrole : ∀ b, b < c.w.heap.size → role' b = role b)
    (hob : ∀ j, j ≠ id → c'.ob j = c.ob j ∧ c'.hd j = c.hd j)
    (hver : (c'.ob id).ver = (c.ob id).ver + 1 ∨
      ((c'.ob id).ver = (c.ob id).ver ∧ (c'.ob id).o.isRow = (c.ob id).o.isRow ∧ (c'.ob id).o.isBox = (c.ob id).o.isBox ∧ c'.hd id = c.hd id))
    (os : c'.w.os = c.w.os) (tape : c'.w.tape = c.w.tape) (output : c'.w.output = c.w.output) (size : c.w.heap.size ≤ c'.w.heap.size)
    (hnew : Le c c' → ObOK c' role' id) : Ext c c' role role' := by
  have hle : Le c c' := by
    refine ⟨?_, ?_, ?_⟩
    · intro b o v ho hv
      by_cases hr : role b = some id
      · exact hstab b o v hr ho hv
      · have hlt := World.block_lt_of_cell? c.w ⟨b, o, none⟩ hv
        refine ⟨by rw [hS b hlt hr]; exact ho, ?_⟩
        rw [World.cell?_of_block (w := c.w) (hheap b hlt hr)]; exact hv
    · intro j
      by_cases hj : j = id
      · subst hj; omega
      · rw [(hob j hj).1]; exact Nat.le_refl _
    · intro j e
      by_cases hj : j = id
      · subst hj
        rcases hver with h | h
        · omega
        · exact h.2
      · rw [(hob j hj).1]; exact ⟨rfl, rfl, (hob j hj).2⟩
  refine ⟨hle, os, tape, output, size, ?_, hrole, ?_⟩
  · intro b hb hr
    exact ⟨hheap b hb (by rw [hr]; simp), hS b hb (by rw [hr]; simp)⟩
  · intro j
    by_cases hj : j = id
    · subst hj; exact hnew hle
    · exact (hobs j).keep hle j (hob j hj).1 (hob j hj).2 fun b hb hl => by
        have hne : role b ≠ some id := by rw [hb]; simpa using hj
        exact ⟨hheap b hl hne, hS b hl hne, by rw [hrole b hl]; exact hb⟩

theorem upd_same {α : Type} (f : Nat → α) (n : Nat) (v : α) : upd f n v n = v := by simp [upd]
theorem upd_ne {α : Type} (f : Nat → α) {n m : Nat} (v : α) (h : m ≠ n) : upd f n v m = f m := by simp [upd, h]

/-- a new box -/
theorem ext_newbox {c : C} {role : Nat → Option Nat} (hobs : ∀ id, ObOK c role id) (id : Nat) (cells : List A) (cs : Array Value) (et : TypeId) (hc : Rl c cells cs.toList) (h1 : cells.all one = true) :
    Ext c ⟨upd c.S c.w.heap.size 0, c.w.alloc (.cells cs et), upd c.hd id (.pointer (some ⟨c.w.heap.size, 0, none⟩)), upd c.ob id { ver := (c.ob id).ver + 1, o := .box cells, leak := false }⟩
      role (upd role c.w.heap.size (some id)) := by
  refine ext_gen hobs id ?_ ?_ ?_ ?_ ?_ ?_ rfl rfl rfl (by simp) ?_
  · exact fun b hb _ => upd_ne _ _ (by omega)
  · exact fun b hb _ => heap_alloc_old c.w _ hb
  · intro b o v _ ho hv
    have hlt := World.block_lt_of_cell? c.w ⟨b, o, none⟩ hv
    refine ⟨by show o < upd _ _ _ b; rw [upd_ne _ _ (by simp at hlt; omega)]; exact ho, ?_⟩
    show (c.w.alloc _).cell? _ = _
    rw [World.cell?_alloc_lt c.w _ _ hlt]; exact hv
  · exact fun b hb => upd_ne _ _ (by omega)
  · exact fun j hj => ⟨upd_ne _ _ hj, upd_ne _ _ hj⟩
  · left; simp [upd_same]
  · intro hle
    show ObOK _ _ id
    unfold ObOK
    simp only [upd_same]
    exact ⟨c.w.heap.size, cs, et, rfl, heap_alloc_new c.w _, Rl.mono hle _ _ hc, h1, upd_same _ _ _, upd_same _ _ _⟩

/-- a new row, in the world that a law gives -/
theorem ext_newrow {c : C} {role : Nat → Option Nat} (hobs : ∀ id, ObOK c role id) (id e sz n : Nat) (cap : Option Nat) (cells : List D) {w' : World} {v : Value} {b0 k0 : Nat} (xs : List Value)
    (hv : v = .slice (some ⟨b0, 0, none⟩) n k0) (hb0 : c.w.heap.size ≤ b0) (hg : c.w.grownBy w' none) (hown : w'.ownsRow 0 e sz v n xs) (hc : RDl c.S c.w cells xs) (hcap : ∀ k, cap = some k → k0 = k) :
    Ext c ⟨upd c.S b0 0, w', upd c.hd id v, upd c.ob id { ver := (c.ob id).ver + 1, o := .row e sz n cap cells, leak := false }⟩ role (upd role b0 (some id)) := by
  have hh : ∀ b, b < c.w.heap.size → w'.heap[b]? = c.w.heap[b]? := fun b hb => hg.block b hb (by simp)
  refine ext_gen hobs id ?_ ?_ ?_ ?_ ?_ ?_ hg.os hg.tape hg.output hg.size ?_
  · exact fun b hb _ => upd_ne _ _ (by omega)
  · exact fun b hb _ => hh b hb
  · intro b o u _ ho hu
    have hlt := World.block_lt_of_cell? c.w ⟨b, o, none⟩ hu
    refine ⟨by show o < upd _ _ _ b; rw [upd_ne _ _ (by simp at hlt; omega)]; exact ho, ?_⟩
    rw [World.cell?_of_block (w := c.w) (hh b hlt)]; exact hu
  · exact fun b hb => upd_ne _ _ (by omega)
  · exact fun j hj => ⟨upd_ne _ _ hj, upd_ne _ _ hj⟩
  · left; simp [upd_same]
  · intro hle
    show ObOK _ _ id
    unfold ObOK
    simp only [upd_same]
    refine ⟨xs, hown, RDl.mono hle.stab _ _ hc, ?_, ?_⟩
    · intro b hb
      rw [hv] at hb
      simp only [Value.ownBlock, Option.some.injEq] at hb
      subst hb
      exact ⟨upd_same _ _ _, by simp [upd_same]⟩
    · intro k hk; rw [hv, hcap k hk]; exact ⟨_, rfl⟩

/-- a row is shared -/
theorem ext_leak {c : C} {role : Nat → Option Nat} (hobs : ∀ id, ObOK c role id) (id : Nat) {e sz n : Nat} {cap : Option Nat} {cells : List D} (ho : (c.ob id).o = .row e sz n cap cells) :
    ∃ S', Ext c ⟨S', c.w, c.hd, upd c.ob id { c.ob id with leak := true }⟩ role role ∧ ∀ b, (c.hd id).ownBlock = some b → S' b = n * sz := by
  obtain ⟨xs, h1, h2, h3, h4⟩ := row_ok (hobs id) ho
  refine ⟨fun b => if (c.hd id).ownBlock = some b then n * sz else c.S b, ?_, fun b hb => by simp [hb]⟩
  refine ext_gen hobs id ?_ ?_ ?_ ?_ ?_ ?_ rfl rfl rfl (Nat.le_refl _) ?_
  · intro b hb hr
    have : (c.hd id).ownBlock ≠ some b := fun h => hr (h3 b h).1
    simp [this]
  · exact fun b hb _ => rfl
  · intro b o v hr ho' hv
    refine ⟨?_, hv⟩
    show o < if _ then _ else _
    split
    · rename_i hb
      have := (h3 b hb).2
      rw [this] at ho'
      split at ho' <;> omega
    · exact ho'
  · exact fun b hb => rfl
  · exact fun j hj => ⟨upd_ne _ _ hj, rfl⟩
  · right; simp [upd_same]
  · intro hle
    show ObOK _ _ id
    unfold ObOK
    simp only [upd_same, ho]
    refine ⟨xs, h1, RDl.mono hle.stab _ _ h2, ?_, h4⟩
    intro b hb
    exact ⟨(h3 b hb).1, by simp [hb]⟩

theorem Ext.trans {c c' c'' : C} {role role' role'' : Nat → Option Nat} (h : Ext c c' role role') (h' : Ext c' c'' role' role'') : Ext c c'' role role'' where
  le := h.le.trans h'.le
  os := h'.os.trans h.os
  tape := h'.tape.trans h.tape
  output := h'.output.trans h.output
  size := Nat.le_trans h.size h'.size
  heap b hb hr := by
    have a := h.heap b hb hr
    have hb' := Nat.lt_of_lt_of_le hb h.size
    have a' := h'.heap b hb' (by rw [h.role b hb]; exact hr)
    exact ⟨a'.1.trans a.1, a'.2.trans a.2⟩
  role b hb := (h'.role b (Nat.lt_of_lt_of_le hb h.size)).trans (h.role b hb)
  obs := h'.obs

/-- several rows are shared -/
theorem ext_leaks : ∀ (ids : List Nat) {c : C} {role : Nat → Option Nat}, (∀ id, ObOK c role id) → (∀ id ∈ ids, ∃ e sz n cap cells, (c.ob id).o = .row e sz n cap cells) →
    ∃ S', Ext c ⟨S', c.w, c.hd, updAll c.ob (leaks c.ob ids)⟩ role role ∧ (∀ id ∈ ids, ∀ e sz n cap cells, (c.ob id).o = .row e sz n cap cells → ∀ b, (c.hd id).ownBlock = some b → S' b = n * sz)
  | [], c, role, hobs, _ => ⟨c.S, Ext.refl hobs, by simp⟩
  | id :: ids, c, role, hobs, hrow => by
    obtain ⟨e, sz, n, cap, cells, ho⟩ := hrow id (by simp)
    obtain ⟨S1, x1, y1⟩ := ext_leak hobs id ho
    -- the rest, over the turned object
    have e1 : leaks c.ob ids = leaks (upd c.ob id { c.ob id with leak := true }) ids := by
      unfold leaks
      apply List.map_congr_left
      intro j _
      by_cases hj : j = id
      · subst hj; simp [upd_same]
      · simp [upd_ne _ _ hj]
    have hrow' : ∀ j ∈ ids, ∃ e sz n cap cells, ((upd c.ob id { c.ob id with leak := true }) j).o = .row e sz n cap cells := by
      intro j hj
      obtain ⟨e, sz, n, cap, cells, h⟩ := hrow j (by simp [hj])
      refine ⟨e, sz, n, cap, cells, ?_⟩
      by_cases hji : j = id
      · subst hji; simpa [upd_same] using h
      · simpa [upd_ne _ _ hji] using h
    obtain ⟨S2, x2, y2⟩ := ext_leaks ids x1.obs hrow'
    refine ⟨S2, ?_, ?_⟩
    · have : updAll c.ob (leaks c.ob (id :: ids)) = updAll (upd c.ob id { c.ob id with leak := true }) (leaks (upd c.ob id { c.ob id with leak := true }) ids) := by
        rw [← e1]; rfl
      rw [this]
      exact x1.trans x2
    · intro j hj e' sz' n' cap' cells' hoj b hb
      rcases List.mem_cons.1 hj with rfl | hj'
      · rw [ho] at hoj
        injection hoj with a1 a2 a3 a4 a5
        subst a2; subst a3
        have hS1 := y1 b hb
        by_cases hin : j ∈ ids
        · exact y2 j hin e sz n cap cells (by simp [upd_same, ho]) b hb
        · -- not turned again: the row is shared, its block's mark stays
          obtain ⟨xs, h1, h2, h3, h4⟩ := row_ok (x2.obs j) (e := e) (size := sz) (n := n) (cap := cap) (cells := cells) (by
            show (updAll _ _ j).o = _
            have hup : ∀ (l : List Nat) (f g : Nat → Ob), j ∉ l → updAll f (leaks g l) j = f j := by
              intro l
              induction l with
              | nil => intro f g _; rfl
              | cons a l ih => intro f g hn; simp only [leaks, List.map_cons, updAll] at ih ⊢; simp only [List.mem_cons, not_or] at hn; rw [ih _ g hn.2]; exact upd_ne _ _ hn.1
            rw [hup ids _ _ hin]; simp [upd_same, ho])
          have hlk : ((updAll (upd c.ob j { c.ob j with leak := true }) (leaks (upd c.ob j { c.ob j with leak := true }) ids)) j).leak = true := by
            have hup : ∀ (l : List Nat) (f g : Nat → Ob), j ∉ l → updAll f (leaks g l) j = f j := by
              intro l
              induction l with
              | nil => intro f g _; rfl
              | cons a l ih => intro f g hn; simp only [leaks, List.map_cons, updAll] at ih ⊢; simp only [List.mem_cons, not_or] at hn; rw [ih _ g hn.2]; exact upd_ne _ _ hn.1
            rw [hup ids _ _ hin]; simp [upd_same]
          have := (h3 b hb).2
          simp only [hlk, if_true] at this
          exact this
      · by_cases hji : j = id
        · subst hji
          exact y2 j hj' e' sz' n' cap' cells' (by simp [upd_same, hoj]) b hb
        · exact y2 j hj' e' sz' n' cap' cells' (by simp [upd_ne _ _ hji, hoj]) b hb
end Go.Vm
