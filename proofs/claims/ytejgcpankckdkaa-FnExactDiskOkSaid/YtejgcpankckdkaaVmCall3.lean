/- A call does what the abstract machine says: the whole. -/
import Derived.Test.YtejgcpankckdkaaVmCall2
set_option linter.unusedVariables false
set_option linter.unusedSectionVars false
set_option linter.unusedSimpArgs false
namespace Go.Vm

def CallPost (c : C) (role : Nat → Option Nat) (out : Out) (e : Ending) (w' : World) : Prop :=
  ∃ S' hd' role', match out with
    | .val a us => ∃ v, e = .returned v ∧ Ext c ⟨S', w', hd', updAll c.ob us⟩ role role' ∧ R ⟨S', w', hd', updAll c.ob us⟩ a v
    | .pan x us => ∃ v, e = .panicked [{ v, recovered := false }] ∧ Ext c ⟨S', w', hd', updAll c.ob us⟩ role role' ∧ RD S' w' x v

def hdsOf (hd : Nat → Value) : List Imp → Nat → Value
  | [], id => hd id
  | i :: is, id => if i.id = id then i.v else hdsOf hd is id
def rolesOf (role : Nat → Option Nat) : List Imp → Nat → Option Nat
  | [], b => role b
  | i :: is, b => if blockOf i.v = some b then some i.id else rolesOf role is b
theorem hdsOf_not {hd : Nat → Value} : ∀ {is : List Imp} {id : Nat}, id ∉ is.map (·.id) → hdsOf hd is id = hd id
  | [], _, _ => rfl
  | i :: is, id, h => by
    simp only [List.map_cons, List.mem_cons, not_or] at h
    simp only [hdsOf]; rw [if_neg (fun e => h.1 e.symm)]; exact hdsOf_not h.2
theorem hdsOf_mem {hd : Nat → Value} : ∀ {is : List Imp} {i : Imp}, (is.map (·.id)).Nodup → i ∈ is → hdsOf hd is i.id = i.v
  | j :: is, i, hn, h => by
    simp only [List.map_cons, List.nodup_cons] at hn
    simp only [hdsOf]
    rcases List.mem_cons.1 h with rfl | h
    · simp
    · rw [if_neg (fun e => hn.1 (List.mem_map.2 ⟨i, h, e.symm⟩))]; exact hdsOf_mem hn.2 h
theorem rolesOf_not {role : Nat → Option Nat} : ∀ {is : List Imp} {b : Nat}, b ∉ is.filterMap (fun i => blockOf i.v) → rolesOf role is b = role b
  | [], _, _ => rfl
  | i :: is, b, h => by
    simp only [rolesOf]
    rw [List.filterMap_cons] at h
    cases hb : blockOf i.v with
    | none => rw [hb] at h; simp only at h; rw [if_neg (by simp)]; exact rolesOf_not h
    | some b' =>
      rw [hb] at h
      simp only [List.mem_cons, not_or] at h
      rw [if_neg (by simp; exact fun e => h.1 e.symm)]; exact rolesOf_not h.2
theorem rolesOf_mem {role : Nat → Option Nat} : ∀ {is : List Imp} {i : Imp} {b : Nat}, (is.filterMap (fun i => blockOf i.v)).Nodup → i ∈ is → blockOf i.v = some b → rolesOf role is b = some i.id
  | j :: is, i, b, hn, h, hb => by
    simp only [rolesOf]
    rw [List.filterMap_cons] at hn
    rcases List.mem_cons.1 h with rfl | h
    · rw [if_pos hb]
    · cases hj : blockOf j.v with
      | none => rw [hj] at hn; simp only at hn; rw [if_neg (by simp)]; exact rolesOf_mem hn h hb
      | some b' =>
        rw [hj] at hn
        simp only [List.nodup_cons] at hn
        rw [if_neg ?_]
        · exact rolesOf_mem hn.2 h hb
        · intro e
          injection e with e
          subst e
          exact hn.1 (List.mem_filterMap.2 ⟨i, h, hb⟩)

/-- the lent boxes, one by one -/
theorem outs_at {S : Nat → Nat} {w : World} {hd : Nat → Value} {ob : Nat → Ob} : ∀ {ms : List Nat} {outs : List (List D)} {bks : List (Nat × Ob)}, backs ob ms outs = some bks →
    (∀ id ∈ ms, ∃ b, hd id = .pointer (some ⟨b, 0, none⟩)) → ROuts S w outs (ms.filterMap fun id => blockOf (hd id)) →
    bks.map (·.1) = ms ∧ ∀ id ∈ ms, ∃ ds b cs et, (id, { ver := (ob id).ver, o := .box (ds.map .d), leak := false }) ∈ bks ∧ hd id = .pointer (some ⟨b, 0, none⟩) ∧
      w.heap[b]? = some (.cells cs et (0, 0)) ∧ RDl S w ds cs.toList ∧ S b = 0
  | [], [], bks, h, _, _ => by simp only [backs, Option.some.injEq] at h; subst h; simp
  | [], _ :: _, bks, h, _, _ => by simp [backs] at h
  | _ :: _, [], bks, h, _, _ => by simp [backs] at h
  | id :: ms, ds :: outs, bks, h, hb, hr => by
    simp only [backs] at h
    obtain ⟨bks', h', rfl⟩ := map_some h
    obtain ⟨b, hid⟩ := hb id (by simp)
    rw [List.filterMap_cons, hid] at hr
    obtain ⟨b', r, cs, et, e1, e2, e3, e4, e5⟩ := hr
    simp only [blockOf] at e1
    injection e1 with e1 e1'
    subst e1; subst e1'
    obtain ⟨p1, p2⟩ := outs_at h' (fun i hi => hb i (by simp [hi])) e5
    refine ⟨by simp [p1], ?_⟩
    intro i hi
    rcases List.mem_cons.1 hi with rfl | hi
    · exact ⟨ds, b, cs, et, by simp, hid, e2, e3, e4⟩
    · obtain ⟨ds', b', cs', et', q1, q2⟩ := p2 i hi
      exact ⟨ds', b', cs', et', by simp [q1], q2⟩

theorem Rl_d {c : C} {ds : List D} {vs : List Value} (h : RDl c.S c.w ds vs) : Rl c (ds.map .d) vs := Rl.map_d h
theorem ones_d : ∀ (ds : List D), (ds.map A.d).all one = true
  | [] => rfl
  | x :: xs => by simp [one, ones_d xs]

section
variable {P : Program} {c : C} {role : Nat → Option Nat} {Γ : Ctx}

theorem does_call (hΓ : SoundAll P Γ) (hobs : ∀ id, ObOK c role id) {as : List A} {vals : Array Value} {f d : Nat} {out : Out} (hR : Rl c as vals.toList) (he : doCall Γ c.ob d f as = some out) :
    (callFunc f vals).run P c.w = .ok (.enter f vals) c.w ∧ Calls P f vals c.w (CallPost c role out) := by
  unfold doCall at he
  obtain ⟨⟨xs, ls, ms⟩, htx, he⟩ := bind_some he
  simp only at he
  split at he
  case isFalse => cases he
  rename_i hdist
  simp only [Bool.and_eq_true, Bool.not_eq_true', List.any_eq_false, beq_iff_eq] at hdist
  have hmsn := distinct_nodup hdist.1
  obtain ⟨xo, hF, he⟩ := bind_some he
  -- the rows that are shared
  obtain ⟨p1, p2, p3⟩ := toXs_R hobs as vals.toList xs ls ms htx hR
  obtain ⟨S1, x1, x2⟩ := ext_leaks ls hobs p1
  have hms : ∀ id ∈ ms, id ∉ ls := fun id h1 h2 => hdist.2 id h1 (List.any_eq_true.2 ⟨id, h2, by simp⟩)
  have hheads : ∀ id ∈ ms, ∃ b, c.hd id = .pointer (some ⟨b, 0, none⟩) ∧ role b = some id := by
    intro id hid
    obtain ⟨cells, ho⟩ := p2 id hid
    exact lent_head hobs ho
  have hbox : ∀ id ∈ ms, ∃ cells b cs et, (c.ob id).o = .box cells ∧ c.hd id = .pointer (some ⟨b, 0, none⟩) ∧ c.w.heap[b]? = some (.cells cs et (0, 0)) ∧ S1 b = 0 ∧ role b = some id := by
    intro id hid
    obtain ⟨cells, ho⟩ := p2 id hid
    have ho' : (updAll c.ob (leaks c.ob ls) id).o = .box cells := by rw [leaks_o c.ob id ls c.ob rfl]; exact ho
    obtain ⟨b, cs, et, h1, h2, _, _, h5, h6⟩ := box_ok (x1.obs id) ho'
    exact ⟨cells, b, cs, et, ho, h1, h2, h5, h6⟩
  have hargs := p3 S1 x1.le.stab x2 (by
    intro id hid b hb
    obtain ⟨cells, b', cs, et, _, h1, _, h3, _⟩ := hbox id hid
    rw [hb] at h1; injection h1 with h1; injection h1 with h1; injection h1 with h1; subst h1; exact h3)
  have hbs : (ms.filterMap fun id => blockOf (c.hd id)).Nodup := by
    have : ∀ (l : List Nat), l.Nodup → (∀ id ∈ l, ∃ b, c.hd id = .pointer (some ⟨b, 0, none⟩) ∧ role b = some id) → (l.filterMap fun id => blockOf (c.hd id)).Nodup := by
      intro l
      induction l with
      | nil => intro _ _; exact List.nodup_nil
      | cons id l ih =>
        intro hn hh
        simp only [List.nodup_cons] at hn
        obtain ⟨b, h1, h2⟩ := hh id (by simp)
        rw [List.filterMap_cons, h1]
        simp only [blockOf]
        refine List.nodup_cons.2 ⟨?_, ih hn.2 fun i hi => hh i (by simp [hi])⟩
        intro hm
        obtain ⟨i, hi, hib⟩ := List.mem_filterMap.1 hm
        obtain ⟨b', q1, q2⟩ := hh i (by simp [hi])
        rw [q1] at hib
        simp only [blockOf, Option.some.injEq] at hib
        subst hib
        rw [h2] at q2; injection q2 with q2; subst q2
        exact hn.1 hi
    exact this ms hmsn hheads
  obtain ⟨hcf, hcalls⟩ := hΓ f S1 c.w vals xs _ hargs hbs xo hF
  refine ⟨hcf, hcalls.mono ?_⟩
  rintro e w2 ⟨S2, hos, htape, hout, hsize, hframe, hpost⟩
  have hinbs : ∀ b, b ∈ (ms.filterMap fun id => blockOf (c.hd id)) ↔ ∃ id ∈ ms, c.hd id = .pointer (some ⟨b, 0, none⟩) := by
    intro b
    rw [List.mem_filterMap]
    constructor
    · rintro ⟨id, h1, h2⟩
      obtain ⟨b', h3, _⟩ := hheads id h1
      rw [h3] at h2; simp only [blockOf, Option.some.injEq] at h2; subst h2
      exact ⟨id, h1, h3⟩
    · rintro ⟨id, h1, h2⟩; exact ⟨id, h1, by rw [h2]; rfl⟩
  -- the common part: which objects turn
  have common : ∀ (is : List Imp) (bks : List (Nat × Ob)) (outs : List (List D)), (is.map (·.id)).Nodup → (is.filterMap (fun i => blockOf i.v)).Nodup → (∀ b ∈ is.filterMap (fun i => blockOf i.v), c.w.heap.size ≤ b) →
      (∀ i ∈ is, i.ob.ver = (c.ob i.id).ver + 1) →
      backs c.ob ms outs = some bks → ROuts S2 w2 outs (ms.filterMap fun id => blockOf (c.hd id)) →
      (∀ (c' : C) (role' : Nat → Option Nat), c'.S = S2 → c'.w = w2 → ImpOK c' role' is → ∀ i ∈ is, ObOK c' role' i.id) →
      Ext c ⟨S2, w2, hdsOf c.hd is, updAll c.ob (leaks c.ob ls ++ (bks ++ is.map fun i => (i.id, i.ob)))⟩ role (rolesOf role is) ∧
      ImpOK ⟨S2, w2, hdsOf c.hd is, updAll c.ob (leaks c.ob ls ++ (bks ++ is.map fun i => (i.id, i.ob)))⟩ (rolesOf role is) is := by
    intro is bks outs hn1 hn2 hfresh hver hbk hro hnewobs
    obtain ⟨k1, k2⟩ := outs_at (S := S2) (w := w2) (hd := c.hd) hbk (fun id hid => ⟨_, (hheads id hid).choose_spec.1⟩) hro
    have hobT : ∀ id, id ∈ is.map (·.id) → ∀ i ∈ is, i.id = id → updAll c.ob (leaks c.ob ls ++ (bks ++ is.map fun i => (i.id, i.ob))) id = i.ob := by
      intro id hid i hi e
      rw [updAll_append, updAll_append]
      exact updAll_mem _ _ (by rw [List.map_map]; exact hn1) (List.mem_map.2 ⟨i, hi, by rw [e]⟩)
    have hobM : ∀ id, id ∉ is.map (·.id) → id ∈ ms → ∀ x, (id, x) ∈ bks → updAll c.ob (leaks c.ob ls ++ (bks ++ is.map fun i => (i.id, i.ob))) id = x := by
      intro id h1 h2 x hx
      rw [updAll_append, updAll_append, updAll_not _ _ (by rw [List.map_map]; exact h1)]
      exact updAll_mem _ _ (by rw [k1]; exact hmsn) hx
    have hobN : ∀ id, id ∉ is.map (·.id) → id ∉ ms → updAll c.ob (leaks c.ob ls ++ (bks ++ is.map fun i => (i.id, i.ob))) id = updAll c.ob (leaks c.ob ls) id := by
      intro id h1 h2
      rw [updAll_append, updAll_append, updAll_not _ _ (by rw [List.map_map]; exact h1), updAll_not _ _ (by rw [k1]; exact h2)]
    have himp : ImpOK ⟨S2, w2, hdsOf c.hd is, updAll c.ob (leaks c.ob ls ++ (bks ++ is.map fun i => (i.id, i.ob)))⟩ (rolesOf role is) is :=
      ⟨fun i hi => ⟨hobT i.id (List.mem_map.2 ⟨i, hi, rfl⟩) i hi rfl, hdsOf_mem hn1 hi⟩, fun i hi b hb => rolesOf_mem hn2 hi hb⟩
    refine ⟨x1.trans ?_, himp⟩
    refine ext_many x1.obs (fun id => id ∈ is.map (·.id) ∨ id ∈ ms) ?_ ?_ ?_ ?_ ?_ hos htape hout hsize ?_
    · intro b hb hT
      refine hframe b hb ?_
      intro hmem
      obtain ⟨id, h1, h2⟩ := (hinbs b).1 hmem
      obtain ⟨b', h3, h4⟩ := hheads id h1
      rw [h2] at h3; injection h3 with h3; injection h3 with h3; injection h3 with h3; subst h3
      exact hT id h4 (.inr h1)
    · intro b id o v hr hT ho hv
      have hlt := World.block_lt_of_cell? c.w ⟨b, o, none⟩ hv
      have hnb : b ∉ (ms.filterMap fun id => blockOf (c.hd id)) := by
        intro hmem
        obtain ⟨id', h1, h2⟩ := (hinbs b).1 hmem
        obtain ⟨cells, b', cs, et, _, h3, _, h5, _⟩ := hbox id' h1
        rw [h2] at h3; injection h3 with h3; injection h3 with h3; injection h3 with h3; subst h3
        simp only at ho; omega
      have hf := hframe b hlt hnb
      refine ⟨by show o < S2 b; rw [hf.2]; exact ho, ?_⟩
      show w2.cell? _ = _
      rw [World.cell?_of_block (w := c.w) hf.1]; exact hv
    · intro b hb
      exact rolesOf_not (fun hm => by have := hfresh b hm; simp only at hb; omega)
    · intro j hj
      simp only [not_or] at hj
      exact ⟨hobN j hj.1 hj.2, hdsOf_not hj.1⟩
    · intro id hT
      by_cases hi : id ∈ is.map (·.id)
      · left
        obtain ⟨i, hi', e⟩ := List.mem_map.1 hi
        show (updAll c.ob _ id).ver = (updAll c.ob (leaks c.ob ls) id).ver + 1
        rw [hobT id hi i hi' e, hver i hi', leaks_ver c.ob id ls c.ob rfl, e]
      · right
        have hm : id ∈ ms := hT.resolve_left hi
        obtain ⟨ds, b, cs, et, q1, q2, q3, q4, q5⟩ := k2 id hm
        obtain ⟨cells, b', _, _, ho, _⟩ := hbox id hm
        have e1 := hobM id hi hm _ q1
        have e2 := leaks_o c.ob id ls c.ob rfl
        refine ⟨?_, ?_, ?_, hdsOf_not hi⟩
        · show (updAll c.ob _ id).ver = (updAll c.ob (leaks c.ob ls) id).ver
          rw [e1, leaks_ver c.ob id ls c.ob rfl]
        · show (updAll c.ob _ id).o.isRow = (updAll c.ob (leaks c.ob ls) id).o.isRow
          rw [e1, e2, ho]; rfl
        · show (updAll c.ob _ id).o.isBox = (updAll c.ob (leaks c.ob ls) id).o.isBox
          rw [e1, e2, ho]; rfl
    · intro hle id hT
      by_cases hi : id ∈ is.map (·.id)
      · obtain ⟨i, hi', e⟩ := List.mem_map.1 hi
        rw [← e]
        exact hnewobs _ _ rfl rfl himp i hi'
      · have hm : id ∈ ms := hT.resolve_left hi
        obtain ⟨ds, b, cs, et, q1, q2, q3, q4, q5⟩ := k2 id hm
        obtain ⟨cells, b', cs', et', ho, r1, r2, r3, r4⟩ := hbox id hm
        rw [q2] at r1; injection r1 with r1; injection r1 with r1; injection r1 with r1; subst r1
        have hlt := lt_of_heap r2
        unfold ObOK
        simp only [hobM id hi hm _ q1]
        refine ⟨b, cs, et, by rw [hdsOf_not hi]; exact q2, q3, Rl_d q4, ones_d ds, q5, ?_⟩
        rw [rolesOf_not (fun hm' => by have := hfresh b hm'; omega)]; exact r4
  cases xo with
  | ret x outs =>
    obtain ⟨bks, hbk, e'⟩ := map_some he
    subst e'
    obtain ⟨v, b1, hv, hRX, hnd, hfr, hro⟩ := hpost
    obtain ⟨is, i1, i2, i3, i4, i6, i5⟩ := import_X c.ob d S2 w2 x 0 v b1 hRX
    have hver : ∀ i ∈ is, i.ob.ver = (c.ob i.id).ver + 1 := by
      have hall : ∀ p ∈ (ofX c.ob d x 0).2.1, p.2.ver = (c.ob p.1).ver + 1 := ofX_ver c.ob d x 0
      intro i hi
      have : (i.id, i.ob) ∈ (ofX c.ob d x 0).2.1 := by rw [← i1]; exact List.mem_map.2 ⟨i, hi, rfl⟩
      exact hall _ this
    obtain ⟨hext, himp⟩ := common is bks outs i6 (by rw [i4]; exact hnd) (by rw [i4]; exact hfr) hver hbk hro (fun c' role' h1 h2 h3 => (i5 c' role' h1 h2 h3).2)
    rw [i1] at hext himp
    exact ⟨S2, _, _, v, hv, hext, (i5 _ _ rfl rfl himp).1⟩
  | pan x outs =>
    obtain ⟨bks, hbk, e'⟩ := map_some he
    subst e'
    obtain ⟨v, hv, hRD, hro⟩ := hpost
    obtain ⟨hext, _⟩ := common [] bks outs List.nodup_nil List.nodup_nil (by simp) (by simp) hbk hro (by simp)
    simp only [List.map_nil, List.append_nil] at hext
    exact ⟨S2, _, _, v, hv, hext, hRD⟩
end
end Go.Vm
