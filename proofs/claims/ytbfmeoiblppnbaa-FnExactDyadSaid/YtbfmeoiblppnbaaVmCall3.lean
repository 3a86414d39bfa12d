/- A call does what the abstract machine says: the whole. -/
import Derived.Test.YtbfmeoiblppnbaaVmCall2
set_option linter.unusedVariables false
set_option linter.unusedSectionVars false
set_option linter.unusedSimpArgs false
namespace Go.Vm
variable [Gl]

def CallPost (c : C) (role : Nat → Option Nat) (out : Out) (e : Ending) (w' : World) : Prop :=
  ∃ S' hd' role', match out with
    | .val a us => ∃ v, e = .returned v ∧ Ext c ⟨S', w', hd', updAll c.ob us⟩ role role' ∧ R ⟨S', w', hd', updAll c.ob us⟩ a v
    | .pan x us => ∃ v, e = .panicked [{ v, recovered := false }] ∧ Ext c ⟨S', w', hd', updAll c.ob us⟩ role role' ∧ RD S' w' x v

def hdsOf (hd : Nat → Value) : List Imp → Nat → Value
  | [], id => hd id
  | i :: is, id => if i.id = id then i.v else hdsOf hd is id
def rolesOf (role : Nat → Option Nat) : List (Nat × List Nat) → Nat → Option Nat
  | [], b => role b
  | p :: ps, b => if b ∈ p.2 then some p.1 else rolesOf role ps b
def prs (is : List Imp) : List (Nat × List Nat) := is.map fun i => (i.id, i.bs)
theorem hdsOf_not {hd : Nat → Value} : ∀ {is : List Imp} {id : Nat}, id ∉ is.map (·.id) → hdsOf hd is id = hd id
  | [], _, _ => rfl
  | i :: is, id, h => by
    simp only [List.map_cons, List.mem_cons, not_or] at h
    simp only [hdsOf]; rw [if_neg (fun e => h.1 e.symm)]; exact hdsOf_not h.2
theorem hdsOf_mem {hd : Nat → Value} : ∀ {is : List Imp} {i : Imp}, (is.map (·.id)).Nodup → i ∈ is → hdsOf hd is i.id = i.v
  | j :: is, i, hn, h => by
    simp only [List.map_cons, List.nodup_cons] at hn
    simp only [hdsOf]
    rcases List.mem_cons.1 h with rfl | h
    · simp
    · rw [if_neg (fun e => hn.1 (List.mem_map.2 ⟨i, h, e.symm⟩))]; exact hdsOf_mem hn.2 h
theorem rolesOf_not {role : Nat → Option Nat} : ∀ {ps : List (Nat × List Nat)} {b : Nat}, b ∉ ps.flatMap (·.2) → rolesOf role ps b = role b
  | [], _, _ => rfl
  | p :: ps, b, h => by
    simp only [List.flatMap_cons, List.mem_append, not_or] at h
    simp only [rolesOf]; rw [if_neg h.1]; exact rolesOf_not h.2
theorem rolesOf_mem {role : Nat → Option Nat} : ∀ {ps : List (Nat × List Nat)} {p : Nat × List Nat} {b : Nat}, (ps.flatMap (·.2)).Nodup → p ∈ ps → b ∈ p.2 → rolesOf role ps b = some p.1
  | q :: ps, p, b, hn, h, hb => by
    simp only [rolesOf]
    simp only [List.flatMap_cons, List.nodup_append] at hn
    rcases List.mem_cons.1 h with rfl | h
    · rw [if_pos hb]
    · rw [if_neg (fun e => hn.2.2 b e b (List.mem_flatMap.2 ⟨p, h, hb⟩) rfl)]; exact rolesOf_mem hn.2.1 h hb
theorem prs_flat (is : List Imp) : (prs is).flatMap (·.2) = is.flatMap (·.bs) := by
  unfold prs; rw [List.flatMap_map]

/-- a lent object, afterwards -/
def Afterwards (c : C) (S : Nat → Nat) (w : World) (id : Nat) (x : Ob) : Prop := x.ver = (c.ob id).ver ∧ x.leak = false ∧
  ((∃ cells ds b cs et, (c.ob id).o = .box cells ∧ x.o = .box (ds.map dA) ∧ c.hd id = .pointer (some ⟨b, 0, none⟩) ∧ w.heap[b]? = some (.cells cs et (0, 0)) ∧ RDl S w ds cs.toList ∧ S b = 0) ∨
   (∃ e sz n0 cap cells0 n cells xs, (c.ob id).o = .row e sz n0 cap cells0 ∧ x.o = .row e sz n cap cells ∧ w.ownsRow 0 e sz (c.hd id) n xs ∧ RDl S w cells xs ∧ ∀ b, (c.hd id).ownBlock = some b → S b = 0) ∨
   (∃ k x0 y vs, (c.ob id).o = .res k x0 ∧ x.o = .res k y ∧ k.Holds w (c.hd id) vs ∧ RDl S w (resD y) vs ∧ ∀ b ∈ k.foot w (c.hd id), S b = 0))
/-- the lent objects, one by one -/
theorem outs_at {c : C} {role : Nat → Option Nat} (hobs : ∀ id, ObOK c role id) {S : Nat → Nat} {w : World} : ∀ {ms : List Nat} {outs : List (List D)} {bks : List (Nat × Ob)}, backs c.ob ms outs = some bks →
    (∀ id ∈ ms, isLent c id) → ROuts S w outs (ms.map (lentOf c)) → bks.map (·.1) = ms ∧ ∀ id ∈ ms, ∃ x, (id, x) ∈ bks ∧ Afterwards c S w id x
  | [], [], bks, h, _, _ => by simp only [backs, Option.some.injEq] at h; subst h; simp
  | [], _ :: _, bks, h, _, _ => by simp [backs] at h
  | _ :: _, [], bks, h, _, _ => by simp [backs] at h
  | id :: ms, ds :: outs, bks, h, hb, hr => by
    simp only [backs] at h
    obtain ⟨x, hx, h⟩ := bind_some h
    obtain ⟨bks', h', rfl⟩ := map_some h
    obtain ⟨l, r, e1, hl, hr⟩ := hr
    simp only [List.map_cons, List.cons.injEq] at e1
    obtain ⟨rfl, rfl⟩ := e1
    obtain ⟨p1, p2⟩ := outs_at hobs h' (fun i hi => hb i (by simp [hi])) hr
    refine ⟨by simp [p1], ?_⟩
    intro i hi
    rcases List.mem_cons.1 hi with rfl | hi
    · refine ⟨x, by simp, ?_⟩
      rcases hb i (by simp) with ⟨cells, ho⟩ | ⟨hlk, e, sz, n, cap, cells, ho⟩ | ⟨k, x0, ho⟩
      · simp only [backO, ho, Option.some.injEq] at hx
        subst hx
        obtain ⟨b, h1, h2⟩ := lent_head hobs ho
        simp only [lentOf, ho, h1, blockOf, Option.getD_some, ROut] at hl
        obtain ⟨cs, et, q1, q2, q3⟩ := hl
        exact ⟨rfl, rfl, .inl ⟨cells, ds, b, cs, et, ho, rfl, h1, q1, q2, q3⟩⟩
      · simp only [lentOf, ho, ROut] at hl
        obtain ⟨n', cells', xs, rfl, q1, q2, q3⟩ := hl
        simp only [backO, ho, Option.some.injEq] at hx
        subst hx
        exact ⟨rfl, rfl, .inr (.inl ⟨e, sz, n, cap, cells, n', cells', xs, ho, rfl, q1, q2, q3⟩)⟩
      · simp only [lentOf, ho, ROut] at hl
        obtain ⟨y, vs, rfl, q1, q2, q3⟩ := hl
        simp only [backO, ho, Option.some.injEq] at hx
        subst hx
        exact ⟨rfl, rfl, .inr (.inr ⟨k, x0, y, vs, ho, rfl, q1, q2, q3⟩)⟩
    · obtain ⟨x', q1, q2⟩ := p2 i hi
      exact ⟨x', by simp [q1], q2⟩

/-! ## what leads to no memory reads alike whatever must stay -/
theorem RD_flat {S S' : Nat → Nat} {w : World} {x : D} {v : Value} (h : x.flat = true) (hr : RD S w x v) : RD S' w x v := by
  cases x <;> first | exact hr | cases h
theorem RDl_flat {S S' : Nat → Nat} {w : World} : ∀ {xs : List D} {vs : List Value}, xs.all D.flat = true → RDl S w xs vs → RDl S' w xs vs
  | [], _, _, h => h
  | x :: xs, _, h, ⟨v, r, e, h1, h2⟩ => by
    simp only [List.all_cons, Bool.and_eq_true] at h
    exact ⟨v, r, e, RD_flat h.1 h1, RDl_flat h.2 h2⟩
mutual
theorem RX_plain {fl : TypeId → Bool} {S S' : Nat → Nat} {w : World} : ∀ {x : X} {v : Value} {bs : List Nat}, plainX fl x = true → (∀ b ∈ bs, S' b = S b) → RX S w x v bs → RX S' w x v bs
  | .d x, v, bs, h, hb, ⟨e, hr⟩ => ⟨e, RD_flat (by simpa [plainX] using h) hr⟩
  | .nil, v, bs, h, hb, hr => hr
  | .own e sz n cap cells lk, v, bs, h, hb, ⟨xs, h1, h2, h3, h4, h5⟩ => by
    simp only [plainX, Bool.and_eq_true] at h
    refine ⟨xs, h1, RDl_flat h.2 h2, h3, ?_, h5⟩
    intro b hbl
    rw [hb b (by rw [h3, hbl]; simp)]
    exact h4 b hbl
  | .box xs, v, bs, h, hb, ⟨b, cs, et, bs', h1, h2, h3, h4, h5, h6⟩ => by
    refine ⟨b, cs, et, bs', h1, h2, RXs_plain (by simpa [plainX] using h) (fun b' hb' => hb b' (by rw [h4]; exact List.mem_append.2 (.inl hb'))) h3, h4, ?_, h6⟩
    rw [hb b (by rw [h4]; simp)]; exact h5
  | .agg xs, v, bs, h, hb, ⟨vs, h1, h2⟩ => ⟨vs, h1, RXs_plain (by simpa [plainX] using h) hb h2⟩
  | .tup xs, v, bs, h, hb, ⟨vs, h1, h2⟩ => ⟨vs, h1, RXs_plain (by simpa [plainX] using h) hb h2⟩
  | .par k, v, bs, h, hb, hr => hr
  | .res _ _, v, bs, h, hb, hr => by simp [plainX] at h
theorem RXs_plain {fl : TypeId → Bool} {S S' : Nat → Nat} {w : World} : ∀ {xs : List X} {vs : List Value} {bs : List Nat}, plainXs fl xs = true → (∀ b ∈ bs, S' b = S b) → RXs S w xs vs bs → RXs S' w xs vs bs
  | [], vs, bs, h, hb, hr => hr
  | x :: xs, vs, bs, h, hb, ⟨v, r, b1, b2, e1, e2, h1, h2⟩ => by
    simp only [plainXs, Bool.and_eq_true] at h
    exact ⟨v, r, b1, b2, e1, e2, RX_plain h.1 (fun b hb' => hb b (by rw [e2]; exact List.mem_append.2 (.inl hb'))) h1, RXs_plain h.2 (fun b hb' => hb b (by rw [e2]; exact List.mem_append.2 (.inr hb'))) h2⟩
end
theorem resD_flat {y : D} (h : y.flat = true) : (resD y).all D.flat = true := by
  cases y <;> simp_all [resD, D.flat]
theorem ROuts_plain {S S' : Nat → Nat} {w : World} : ∀ {outs : List (List D)} {ls : List Lent}, outs.all flatOut = true → ((∀ b, Lent.box b ∈ ls → S' b = S b) ∧ ∀ k v, Lent.res k v ∈ ls → ∀ b ∈ k.foot w v, S' b = S b) → ROuts S w outs ls → ROuts S' w outs ls
  | [], ls, h, hb, hr => hr
  | ds :: outs, ls, h, hb, ⟨l, r, e, h1, h2⟩ => by
    simp only [List.all_cons, Bool.and_eq_true] at h
    subst e
    refine ⟨l, r, rfl, ?_, ROuts_plain h.2 ⟨fun b hb' => hb.1 b (by simp [hb']), fun k v hb' => hb.2 k v (by simp [hb'])⟩ h2⟩
    cases l with
    | box b =>
      obtain ⟨cs, et, q1, q2, q3⟩ := h1
      exact ⟨cs, et, q1, RDl_flat h.1 q2, by rw [hb.1 b (by simp)]; exact q3⟩
    | res k v =>
      obtain ⟨y, vs, rfl, q1, q2, q3⟩ := h1
      have hy : y.flat = true := by simpa [flatOut] using h.1
      exact ⟨y, vs, rfl, q1, RDl_flat (resD_flat hy) q2, fun b hb' => by rw [hb.2 k v (by simp) b hb']; exact q3 b hb'⟩
    | row v e sz =>
      obtain ⟨n, cells, xs, q1, _⟩ := h1
      rw [q1] at h
      simp [flatOut, D.flat] at h

theorem dA_R {c : C} {x : D} {v : Value} (h : RD c.S c.w x v) : R c (dA x) v := by cases x <;> exact h
theorem Rl_d {c : C} : ∀ {ds : List D} {vs : List Value}, RDl c.S c.w ds vs → Rl c (ds.map dA) vs
  | [], _, h => h
  | _ :: _, _, ⟨v, r, e, h1, h2⟩ => ⟨v, r, e, dA_R h1, Rl_d h2⟩
theorem ones_d : ∀ (ds : List D), (ds.map dA).all one = true
  | [] => rfl
  | x :: xs => by
    simp only [List.map_cons, List.all_cons, ones_d xs, Bool.and_true]
    cases x <;> rfl

section
variable {P : Program} {c : C} {role : Nat → Option Nat} {Γ : Ctx}

omit P Γ in
mutual
/-- what came back as what was lent is that -/
theorem parA_R {c' : C} {ob : Nat → Ob} {ms : List Nat} {ls : List Lent} (hp : ∀ (k id : Nat) (v : Value) (e sz : Nat), ms[k]? = some id → ls[k]? = some (Lent.row v e sz) → R c' (.row id (ob id).ver) v) :
    ∀ (x : X) (a : A) (v : Value), ParOK ls x v → R c' a v → R c' (parA ob ms x a) v
  | .par k, a, v, hx, ha => by
    simp only [parA]
    obtain ⟨e, sz, h⟩ := hx
    cases hm : ms[k]? with
    | none => exact trivial
    | some id => exact hp k id v e sz hm h
  | .agg xs, .agg as, v, hx, ⟨vs, e, ha⟩ => by
    simp only [parA]
    simp only [ParOK] at hx
    exact ⟨vs, e, parAs_R hp xs as vs.toList (hx vs e) ha⟩
  | .tup xs, .tup as, v, hx, ⟨vs, e, ha⟩ => by
    simp only [parA]
    simp only [ParOK] at hx
    exact ⟨vs, e, parAs_R hp xs as vs.toList (hx vs e) ha⟩
  | .d _, a, v, _, ha => by cases a <;> simpa only [parA] using ha
  | .nil, a, v, _, ha => by cases a <;> simpa only [parA] using ha
  | .own .., a, v, _, ha => by cases a <;> simpa only [parA] using ha
  | .box _, a, v, _, ha => by cases a <;> simpa only [parA] using ha
  | .res _ _, a, v, _, ha => by cases a <;> simpa only [parA] using ha
  | .agg xs, .undef, v, _, ha => by simpa only [parA] using ha
  | .agg xs, .d _, v, _, ha => by simpa only [parA] using ha
  | .agg xs, .nil, v, _, ha => by simpa only [parA] using ha
  | .agg xs, .row .., v, _, ha => by simpa only [parA] using ha
  | .agg xs, .adr .., v, _, ha => by simpa only [parA] using ha
  | .agg xs, .rad .., v, _, ha => by simpa only [parA] using ha
  | .agg xs, .vw .., v, _, ha => by simpa only [parA] using ha
  | .agg xs, .cp _, v, _, ha => by simpa only [parA] using ha
  | .agg xs, .tup _, v, _, ha => by simpa only [parA] using ha
  | .tup xs, .undef, v, _, ha => by simpa only [parA] using ha
  | .tup xs, .d _, v, _, ha => by simpa only [parA] using ha
  | .tup xs, .nil, v, _, ha => by simpa only [parA] using ha
  | .tup xs, .row .., v, _, ha => by simpa only [parA] using ha
  | .tup xs, .adr .., v, _, ha => by simpa only [parA] using ha
  | .tup xs, .rad .., v, _, ha => by simpa only [parA] using ha
  | .tup xs, .vw .., v, _, ha => by simpa only [parA] using ha
  | .tup xs, .cp _, v, _, ha => by simpa only [parA] using ha
  | .tup xs, .agg _, v, _, ha => by simpa only [parA] using ha
theorem parAs_R {c' : C} {ob : Nat → Ob} {ms : List Nat} {ls : List Lent} (hp : ∀ (k id : Nat) (v : Value) (e sz : Nat), ms[k]? = some id → ls[k]? = some (Lent.row v e sz) → R c' (.row id (ob id).ver) v) :
    ∀ (xs : List X) (as : List A) (vs : List Value), ParOKs ls xs vs → Rl c' as vs → Rl c' (parAs ob ms xs as) vs
  | [], as, vs, _, ha => by cases as <;> simpa only [parAs] using ha
  | _ :: _, [], vs, _, ha => by simpa only [parAs] using ha
  | x :: xs, a :: as, vs, hx, ⟨v, r, e, h1, h2⟩ => by
    subst e
    simp only [ParOKs] at hx
    simp only [parAs]
    exact ⟨v, r, rfl, parA_R hp x a v hx.1 h1, parAs_R hp xs as r hx.2 h2⟩
end
theorem call_back (hobs : ∀ id, ObOK c role id) {m : Bool} {as : List A} {vals : Array Value} {d : Nat} (hR : Rl c as vals.toList)
    {xs : List X} {ls ms : List Nat} (htx : toXs m c.ob as = some (xs, ls, ms)) (hdist : (distinct ms && !(ms.any fun m => ls.any (· == m))) = true) :
    ∃ S1 bs, RXs S1 c.w xs vals.toList bs ∧ (bs.Nodup ∧ ∀ b ∈ bs, role b ≠ none) ∧ Stab c.S c.w S1 c.w ∧ ∀ (xo : XOut) (out : Out), backOf Γ c.ob d ls ms xo = some out → ∀ e w2, Ends S1 c.w bs (lentXs xs vals.toList) xo e w2 → CallPost c role out e w2 := by
  simp only [Bool.and_eq_true, Bool.not_eq_true', List.any_eq_false, beq_iff_eq] at hdist
  have hmsn := distinct_nodup hdist.1
  -- the rows that are shared
  obtain ⟨p1, p2, p4, p3⟩ := toXs_R hobs m as vals.toList xs ls ms htx hR
  obtain ⟨S1, x1, x2⟩ := ext_leaks ls hobs p1
  have hms : ∀ id ∈ ms, id ∉ ls := fun id h1 h2 => hdist.2 id h1 (List.any_eq_true.2 ⟨id, h2, by simp⟩)
  have hrole : ∀ id ∈ ms, ∀ b ∈ blk c id, role b = some id := fun id hid => lent_role hobs (p2 id hid)
  -- nothing of what is lent must stay
  have hzero : ∀ (S : Nat → Nat) (LS : List Nat), (∀ id ∈ ms, id ∉ LS) → (∀ id, ObOK ⟨S, c.w, c.hd, updAll c.ob (leaks c.ob LS)⟩ role id) → ∀ id ∈ ms, ∀ b ∈ blk c id, S b = 0 := by
    intro S LS hLS hob id hid b hb
    have hb1 := hob id
    unfold blk bsOf at hb
    have hsame : updAll c.ob (leaks c.ob LS) id = c.ob id := updAll_not _ _ (by unfold leaks; rw [List.map_map]; simpa using hLS id hid)
    rcases p2 id hid with ⟨cells, ho⟩ | ⟨hlk, e, sz, n, cap, cells, ho⟩ | ⟨k, x, ho⟩
    · obtain ⟨b', cs, et, h1, h2, _, _, h5, h6⟩ := box_ok (c := ⟨S, c.w, c.hd, updAll c.ob (leaks c.ob LS)⟩) hb1 (by simp only [hsame]; exact ho)
      simp only at h1 h5
      rw [ho, h1] at hb; simp only [blockOf, Option.toList_some, List.mem_singleton] at hb; subst hb; exact h5
    · obtain ⟨xs', h1, h2, h3, h4⟩ := row_ok (c := ⟨S, c.w, c.hd, updAll c.ob (leaks c.ob LS)⟩) hb1 (by simp only [hsame]; exact ho)
      simp only [hsame, hlk, Bool.false_eq_true, if_false] at h3
      simp only at h1
      rw [ho] at hb
      simp only [blockOf_own h1, Option.mem_toList] at hb
      exact (h3 b hb).2
    · obtain ⟨vs, h1, h2, h3⟩ := res_ok (c := ⟨S, c.w, c.hd, updAll c.ob (leaks c.ob LS)⟩) hb1 (by simp only [hsame]; exact ho)
      rw [ho] at hb
      exact (h3 b hb).2
  have hargs := p3 S1 x1.le.stab x2 (hzero S1 ls hms x1.obs)
  have hbs : (ms.flatMap (blk c)).Nodup := nodup_blk hobs hmsn p2
  refine ⟨S1, _, hargs, ⟨hbs, fun b hb => by
    obtain ⟨id, hid, e⟩ := List.mem_flatMap.1 hb
    rw [hrole id hid b e]; simp⟩, x1.le.stab, ?_⟩
  intro xo out he e w2 hends
  rw [p4] at hends
  obtain ⟨S2, hos, htape, hout, hsize, hframe, hpost⟩ := hends
  have hinbs : ∀ b, b ∈ ms.flatMap (blk c) ↔ ∃ id ∈ ms, b ∈ blk c id := by
    intro b
    rw [List.mem_flatMap]
  let lps : List (Nat × List Nat) := ms.map fun id => (id, newB c.w w2 (lentOf c id))
  have hlps : lps.flatMap (·.2) = (ms.map (lentOf c)).flatMap (newB c.w w2) := by
    show (ms.map _).flatMap _ = _
    rw [List.flatMap_map, List.flatMap_map]
  have hlfresh : ∀ b ∈ lps.flatMap (·.2), c.w.heap.size ≤ b := by
    intro b hb
    rw [hlps] at hb
    obtain ⟨l, _, hl⟩ := List.mem_flatMap.1 hb
    cases l with
    | res k v => simp only [newB, List.mem_filter, decide_eq_true_eq] at hl; exact hl.2
    | box _ => simp [newB] at hl
    | row _ _ _ => simp [newB] at hl
  -- the common part: which objects turn
  have common : ∀ (S1 : Nat → Nat) (LS : List Nat) (hLS : ∀ id ∈ ms, id ∉ LS) (x1 : Ext c ⟨S1, c.w, c.hd, updAll c.ob (leaks c.ob LS)⟩ role role) (S2 : Nat → Nat)
      (hframe : ∀ b, b < c.w.heap.size → b ∉ ms.flatMap (blk c) → w2.heap[b]? = c.w.heap[b]? ∧ S2 b = S1 b)
      (is : List Imp) (bks : List (Nat × Ob)) (outs : List (List D)), (is.map (·.id)).Nodup → (is.flatMap (·.bs) ++ (ms.map (lentOf c)).flatMap (newB c.w w2)).Nodup → (∀ b ∈ is.flatMap (·.bs), c.w.heap.size ≤ b) → (∀ l ∈ ms.map (lentOf c), KeptB c.w w2 l) →
      (∀ i ∈ is, i.ob.ver = (c.ob i.id).ver + 1) →
      backs c.ob ms outs = some bks → ROuts S2 w2 outs (ms.map (lentOf c)) →
      (∀ (c' : C) (role' : Nat → Option Nat), c'.S = S2 → c'.w = w2 → ImpOK c' role' is → ∀ i ∈ is, ObOK c' role' i.id) →
      Ext c ⟨S2, w2, hdsOf c.hd is, updAll c.ob (leaks c.ob LS ++ (bks ++ is.map fun i => (i.id, i.ob)))⟩ role (rolesOf role (prs is ++ lps)) ∧
      ImpOK ⟨S2, w2, hdsOf c.hd is, updAll c.ob (leaks c.ob LS ++ (bks ++ is.map fun i => (i.id, i.ob)))⟩ (rolesOf role (prs is ++ lps)) is := by
    intro S1 LS hLS x1 S2 hframe is bks outs hn1 hn2' hfresh' hkept hver hbk hro hnewobs
    have hn2 : ((prs is ++ lps).flatMap (·.2)).Nodup := by rw [List.flatMap_append, prs_flat, hlps]; exact hn2'
    have hfresh : ∀ b ∈ (prs is ++ lps).flatMap (·.2), c.w.heap.size ≤ b := by
      intro b hb
      rw [List.flatMap_append, prs_flat] at hb
      rcases List.mem_append.1 hb with hb | hb
      · exact hfresh' b hb
      · exact hlfresh b hb
    have hz := hzero S1 LS hLS x1.obs
    obtain ⟨k1, k2⟩ := outs_at hobs hbk p2 hro
    have hobT : ∀ id, id ∈ is.map (·.id) → ∀ i ∈ is, i.id = id → updAll c.ob (leaks c.ob LS ++ (bks ++ is.map fun i => (i.id, i.ob))) id = i.ob := by
      intro id hid i hi e
      rw [updAll_append, updAll_append]
      exact updAll_mem _ _ (by rw [List.map_map]; exact hn1) (List.mem_map.2 ⟨i, hi, by rw [e]⟩)
    have hobM : ∀ id, id ∉ is.map (·.id) → id ∈ ms → ∀ x, (id, x) ∈ bks → updAll c.ob (leaks c.ob LS ++ (bks ++ is.map fun i => (i.id, i.ob))) id = x := by
      intro id h1 h2 x hx
      rw [updAll_append, updAll_append, updAll_not _ _ (by rw [List.map_map]; exact h1)]
      exact updAll_mem _ _ (by rw [k1]; exact hmsn) hx
    have hobN : ∀ id, id ∉ is.map (·.id) → id ∉ ms → updAll c.ob (leaks c.ob LS ++ (bks ++ is.map fun i => (i.id, i.ob))) id = updAll c.ob (leaks c.ob LS) id := by
      intro id h1 h2
      rw [updAll_append, updAll_append, updAll_not _ _ (by rw [List.map_map]; exact h1), updAll_not _ _ (by rw [k1]; exact h2)]
    have himp : ImpOK ⟨S2, w2, hdsOf c.hd is, updAll c.ob (leaks c.ob LS ++ (bks ++ is.map fun i => (i.id, i.ob)))⟩ (rolesOf role (prs is ++ lps)) is :=
      ⟨fun i hi => ⟨hobT i.id (List.mem_map.2 ⟨i, hi, rfl⟩) i hi rfl, hdsOf_mem hn1 hi⟩, fun i hi b hb => rolesOf_mem hn2 (List.mem_append.2 (.inl (List.mem_map.2 ⟨i, hi, rfl⟩))) hb⟩
    refine ⟨x1.trans ?_, himp⟩
    refine ext_many x1.obs (fun id => id ∈ is.map (·.id) ∨ id ∈ ms) ?_ ?_ ?_ ?_ ?_ hos htape hout hsize ?_
    · intro b hb hT
      refine hframe b hb ?_
      intro hmem
      obtain ⟨id, h1, h2⟩ := (hinbs b).1 hmem
      exact hT id (hrole id h1 b h2) (.inr h1)
    · intro b id o v hr hT ho hv
      have hlt := World.block_lt_of_cell? c.w ⟨b, o, none⟩ hv
      have hnb : b ∉ ms.flatMap (blk c) := by
        intro hmem
        obtain ⟨id', h1, h2⟩ := (hinbs b).1 hmem
        have := hz id' h1 b h2
        simp only at ho; omega
      have hf := hframe b hlt hnb
      refine ⟨by show o < S2 b; rw [hf.2]; exact ho, ?_⟩
      show w2.cell? _ = _
      rw [World.cell?_of_block (w := c.w) hf.1]; exact hv
    · intro b hb
      exact rolesOf_not (fun hm => by have := hfresh b hm; simp only at hb; omega)
    · intro j hj
      simp only [not_or] at hj
      exact ⟨hobN j hj.1 hj.2, hdsOf_not hj.1⟩
    · intro id hT
      by_cases hi : id ∈ is.map (·.id)
      · left
        obtain ⟨i, hi', e⟩ := List.mem_map.1 hi
        show (updAll c.ob _ id).ver = (updAll c.ob (leaks c.ob LS) id).ver + 1
        rw [hobT id hi i hi' e, hver i hi', leaks_ver c.ob id LS c.ob rfl, e]
      · right
        have hm : id ∈ ms := hT.resolve_left hi
        obtain ⟨x, q1, q2, q3, q4⟩ := k2 id hm
        have e1 := hobM id hi hm _ q1
        have e2 := leaks_o c.ob id LS c.ob rfl
        refine ⟨?_, ?_, ?_, hdsOf_not hi⟩
        · show (updAll c.ob _ id).ver = (updAll c.ob (leaks c.ob LS) id).ver
          rw [e1, leaks_ver c.ob id LS c.ob rfl, q2]
        · show (updAll c.ob _ id).o.isRow = (updAll c.ob (leaks c.ob LS) id).o.isRow
          rw [e1, e2]
          rcases q4 with ⟨cells, ds, b, cs, et, ho, hx, _⟩ | ⟨e, sz, n0, cap, cells0, n, cells, xs, ho, hx, _⟩ | ⟨k, x0, y, vs, ho, hx, _⟩ <;> rw [ho, hx] <;> rfl
        · show (updAll c.ob _ id).o.isBox = (updAll c.ob (leaks c.ob LS) id).o.isBox
          rw [e1, e2]
          rcases q4 with ⟨cells, ds, b, cs, et, ho, hx, _⟩ | ⟨e, sz, n0, cap, cells0, n, cells, xs, ho, hx, _⟩ | ⟨k, x0, y, vs, ho, hx, _⟩ <;> rw [ho, hx] <;> rfl
    · intro hle id hT
      by_cases hi : id ∈ is.map (·.id)
      · obtain ⟨i, hi', e⟩ := List.mem_map.1 hi
        rw [← e]
        exact hnewobs _ _ rfl rfl himp i hi'
      · have hm : id ∈ ms := hT.resolve_left hi
        obtain ⟨x, q1, q2, q3, q4⟩ := k2 id hm
        have hrl : ∀ b ∈ blk c id, b < c.w.heap.size → rolesOf role (prs is ++ lps) b = some id := by
          intro b hb hlt
          rw [rolesOf_not (fun hm' => by have := hfresh b hm'; omega)]
          exact hrole id hm b hb
        rcases q4 with ⟨cells, ds, b, cs, et, ho, hx, g1, g2, g3, g4⟩ | ⟨e, sz, n0, cap, cells0, n, cells, xs, ho, hx, g1, g2, g3⟩ | ⟨k, x0, y, vs, ho, hx, g1, g2, g3⟩
        · obtain ⟨b', cs', et', r1, r2, _⟩ := box_ok (hobs id) ho
          rw [g1] at r1; injection r1 with r1; injection r1 with r1; injection r1 with r1; subst r1
          unfold ObOK
          simp only [hobM id hi hm _ q1, hx]
          exact ⟨b, cs, et, by rw [hdsOf_not hi]; exact g1, g2, Rl_d g3, ones_d ds, g4, hrl b (by simp [blk, bsOf, ho, g1, blockOf]) (lt_of_heap r2)⟩
        · obtain ⟨xs0, r1, r2, r3, r4⟩ := row_ok (hobs id) ho
          unfold ObOK
          simp only [hobM id hi hm _ q1, hx, hdsOf_not hi]
          refine ⟨xs, g1, g2, ?_, ?_⟩
          · intro b hb
            refine ⟨hrl b (by simp [blk, bsOf, ho, blockOf_own r1, hb]) ((r1.lt b hb).2), ?_⟩
            rw [q3]; simp only [Bool.false_eq_true, if_false]
            exact g3 b hb
          · intro k hk
            obtain ⟨a, ha⟩ := r4 k hk
            obtain ⟨a', k', ha', _⟩ := own_cap g1
            rw [ha] at ha'
            injection ha' with e1 e2 e3
            exact ⟨a, by rw [ha, e2]⟩
        · unfold ObOK
          simp only [hobM id hi hm _ q1, hx, hdsOf_not hi]
          refine ⟨vs, g1, g2, fun b hb => ⟨?_, g3 b hb⟩⟩
          by_cases hlt : b < c.w.heap.size
          · have hk := hkept (lentOf c id) (List.mem_map.2 ⟨id, hm, rfl⟩)
            simp only [lentOf, ho, KeptB] at hk
            exact hrl b (by simp only [blk, bsOf, ho]; exact hk b hb hlt) hlt
          · refine rolesOf_mem (p := (id, newB c.w w2 (lentOf c id))) hn2 (List.mem_append.2 (.inr (List.mem_map.2 ⟨id, hm, rfl⟩))) ?_
            simp only [lentOf, ho, newB, List.mem_filter, decide_eq_true_eq]
            exact ⟨hb, by omega⟩
  -- where nothing that came back leads to memory, what was shared is shared no more
  let S3 : Nat → Nat := fun b => if b < c.w.heap.size ∧ b ∉ ms.flatMap (blk c) then c.S b else S2 b
  have hS3 : ∀ b, b < c.w.heap.size → b ∉ ms.flatMap (blk c) → w2.heap[b]? = c.w.heap[b]? ∧ S3 b = c.S b := by
    intro b h1 h2
    refine ⟨(hframe b h1 h2).1, ?_⟩
    show (if _ then _ else _) = _
    rw [if_pos ⟨h1, h2⟩]
  have hS3n : ∀ b, c.w.heap.size ≤ b → S3 b = S2 b := by
    intro b h1
    show (if _ then _ else _) = _
    rw [if_neg (by omega)]
  have hS3m : ∀ b, b ∈ ms.flatMap (blk c) → S3 b = S2 b := by
    intro b h1
    show (if _ then _ else _) = _
    rw [if_neg (fun q => q.2 h1)]
  have hlb1 : ∀ b, Lent.box b ∈ ms.map (lentOf c) → S3 b = S2 b := by
    intro b hb
    obtain ⟨id, hid, e⟩ := List.mem_map.1 hb
    rcases p2 id hid with ⟨cells, ho⟩ | ⟨hlk, e', sz, n, cap, cells, ho⟩ | ⟨k, x, ho⟩
    · obtain ⟨b', h1, h2⟩ := lent_head hobs ho
      simp only [lentOf, ho, h1, blockOf, Option.getD_some, Lent.box.injEq] at e
      subst e
      exact hS3m _ ((hinbs _).2 ⟨id, hid, by simp [blk, bsOf, ho, h1, blockOf]⟩)
    · simp [lentOf, ho] at e
    · simp [lentOf, ho] at e
  have hlb2 : (∀ l ∈ ms.map (lentOf c), KeptB c.w w2 l) → ∀ k v, Lent.res k v ∈ ms.map (lentOf c) → ∀ b ∈ k.foot w2 v, S3 b = S2 b := by
    intro hkept k v hb b hbf
    by_cases hlt : b < c.w.heap.size
    · have hk := hkept _ hb b hbf hlt
      obtain ⟨id, hid, e⟩ := List.mem_map.1 hb
      rcases p2 id hid with ⟨cells, ho⟩ | ⟨hlk, e', sz, n, cap, cells, ho⟩ | ⟨k', x, ho⟩
      · simp [lentOf, ho] at e
      · simp [lentOf, ho] at e
      · simp only [lentOf, ho, Lent.res.injEq] at e
        obtain ⟨rfl, rfl⟩ := e
        exact hS3m _ ((hinbs _).2 ⟨id, hid, by simp only [blk, bsOf, ho]; exact hk⟩)
    · exact hS3n b (by omega)
  have x0 : Ext c ⟨c.S, c.w, c.hd, updAll c.ob (leaks c.ob [])⟩ role role := Ext.refl hobs
  cases xo with
  | ret x outs =>
    obtain ⟨bks, hbk, e'⟩ := map_some he
    subst e'
    obtain ⟨v, b1, hv, hRX, hnd, hfr, hro, hpar, hkept⟩ := hpost
    have hfin : ∀ {c' : C}, Le c c' → R c' (ofX c.ob d x 0).1 v → R c' (parA c.ob ms x (ofX c.ob d x 0).1) v := by
      intro c' hle hr
      refine parA_R ?_ x _ v hpar hr
      intro k id u e sz hk hl
      rw [List.getElem?_map, hk] at hl
      simp only [Option.map_some, Option.some.injEq] at hl
      unfold lentOf at hl
      split at hl
      · rename_i e' sz' n' cap' cells' ho
        injection hl with q1 q2 q3
        subst q1
        obtain ⟨xs', w1, _⟩ := row_ok (hobs id) ho
        obtain ⟨a, k', w2, _⟩ := own_cap w1
        refine ⟨by rw [w2]; rfl, hle.ver id, ?_⟩
        intro h1 _
        exact ((hle.same id h1.symm).2.2).symm
      · cases hl
      · cases hl
    have hver : ∀ (is : List Imp), is.map (fun i => (i.id, i.ob)) = (ofX c.ob d x 0).2.1 → ∀ i ∈ is, i.ob.ver = (c.ob i.id).ver + 1 := by
      have hall : ∀ p ∈ (ofX c.ob d x 0).2.1, p.2.ver = (c.ob p.1).ver + 1 := ofX_ver c.ob d x 0
      intro is i1 i hi
      have : (i.id, i.ob) ∈ (ofX c.ob d x 0).2.1 := by rw [← i1]; exact List.mem_map.2 ⟨i, hi, rfl⟩
      exact hall _ this
    by_cases hpl : (plainX Γ.fl x && outs.all flatOut) = true
    · rw [if_pos hpl]
      simp only [Bool.and_eq_true] at hpl
      have hRX' : RX S3 w2 x v b1 := RX_plain hpl.1 (fun b hb => hS3n b (hfr b hb)) hRX
      have hro' : ROuts S3 w2 outs (ms.map (lentOf c)) := ROuts_plain hpl.2 ⟨hlb1, hlb2 hkept⟩ hro
      obtain ⟨is, i1, i2, i3, i4, i6, _, _, i5⟩ := import_X c.ob d S3 w2 x 0 v b1 hRX'
      obtain ⟨hext, himp⟩ := common c.S [] (by simp) x0 S3 hS3 is bks outs i6 (by rw [i4]; exact hnd) (by rw [i4]; exact hfr) hkept (hver is i1) hbk hro' (fun c' role' h1 h2 h3 => (i5 c' role' h1 h2 h3).2)
      rw [i1] at hext himp
      exact ⟨S3, _, _, v, hv, hext, hfin hext.le (i5 _ _ rfl rfl himp).1⟩
    · rw [if_neg hpl]
      obtain ⟨is, i1, i2, i3, i4, i6, _, _, i5⟩ := import_X c.ob d S2 w2 x 0 v b1 hRX
      obtain ⟨hext, himp⟩ := common S1 ls hms x1 S2 hframe is bks outs i6 (by rw [i4]; exact hnd) (by rw [i4]; exact hfr) hkept (hver is i1) hbk hro (fun c' role' h1 h2 h3 => (i5 c' role' h1 h2 h3).2)
      rw [i1] at hext himp
      exact ⟨S2, _, _, v, hv, hext, hfin hext.le (i5 _ _ rfl rfl himp).1⟩
  | pan x outs =>
    obtain ⟨bks, hbk, e'⟩ := map_some he
    subst e'
    obtain ⟨v, hv, hRD, hro, hnd, hkept⟩ := hpost
    · obtain ⟨hext, _⟩ := common S1 ls hms x1 S2 hframe [] bks outs List.nodup_nil (by simpa using hnd) (by simp) hkept (by simp) hbk hro (by simp)
      simp only [List.map_nil, List.append_nil] at hext
      exact ⟨S2, _, _, v, hv, hext, hRD⟩
theorem does_call (hΓ : SoundAll P Γ) (hobs : ∀ id, ObOK c role id) (hgl : GlOK c.w role) {as : List A} {vals : Array Value} {f d : Nat} {out : Out} (hR : Rl c as vals.toList) (he : doCall Γ c.ob d f as = some out) :
    (callFunc f vals).run P c.w = .ok (.enter f vals) c.w ∧ Calls P f vals c.w (CallPost c role out) := by
  unfold doCall at he
  obtain ⟨⟨xs, ls, ms⟩, htx, he⟩ := bind_some he
  simp only at he
  split at he
  case isFalse => cases he
  rename_i hdist
  obtain ⟨xo, hF, he⟩ := bind_some he
  obtain ⟨S1, bs, h1, h2, _, h3⟩ := call_back (Γ := Γ) (d := d) hobs hR htx hdist
  obtain ⟨hcf, hcalls⟩ := hΓ f S1 c.w vals xs bs h1 ⟨h2.1, hgl.1, fun b hb => ⟨(hgl.2 b hb).1, fun hm => h2.2 b hm (hgl.2 b hb).2⟩⟩ xo hF
  exact ⟨hcf, hcalls.mono fun e w2 h => h3 xo out (by cases xo <;> exact he) e w2 h⟩
end
end Go.Vm
