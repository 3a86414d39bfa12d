/- Running the abstract machine by rewriting, to the end of the call: every test that is open stays an 'if'. -/
import Derived.Test.YtejgcpankckdkaaVmGo
set_option linter.unusedSectionVars false
set_option linter.unusedSimpArgs false
set_option linter.unusedVariables false
namespace Go.Vm

inductive KJ where
  | c (x : Cd)
  | b (id : Nat)
  | v (live : List Nat)
  | l (keep : List Nat) (b : Cd) (m : Nat)

/-- what does not change in a call: the contracts, the lent boxes, the rounds, the results, and what is made of the end -/
structure En where
  Γ : Ctx
  ps : List Nat
  n : Nat
  rs : List RV
  wk : XOut → Option XOut

def back (E : En) : List KJ → Ex × St → Option XOut
  | [], p => (leave E.ps E.rs p).bind E.wk
  | .c x :: k, (.normal, st) => (run E.Γ E.ps E.n x st).bind (back E k)
  | .c _ :: k, (e, st) => back E k (e, st)
  | .b id :: k, (.exit j, st) => if j = id then back E k (.normal, st) else back E k (.exit j, st)
  | .b _ :: k, (e, st) => back E k (e, st)
  | .v live :: k, (.normal, st) => back E k (.normal, st.only live)
  | .v _ :: k, (e, st) => back E k (e, st)
  | .l keep b m :: k, (.normal, st) => (loopF E.Γ E.ps E.n keep b m st).bind (back E k)
  | .l .. :: k, (e, st) => back E k (e, st)

def fin (E : En) (x : Option XOut) : Option XOut := x.bind E.wk
def G (E : En) (c : Cd) (k : List KJ) (st : St) : Option XOut := (run E.Γ E.ps E.n c st).bind (back E k)
def gOps (E : En) (l : List SOper) (k : List KJ) (st : St) : Option XOut := (runOps E.Γ l st).bind (back E k)
def gOut (E : En) (d : Option Nat) (x : Option Out) (l : List SOper) (k : List KJ) (st : St) : Option XOut := x.bind fun
  | .val a us => gOps E l k (({ st with ob := updAll st.ob us } : St).put d a)
  | .pan x us => back E k (.panic x, { st with ob := updAll st.ob us })
def gSt (E : En) (k : List KJ) (e : Ex) (st : St) : Option XOut := back E k (e, st)
/-- a loop, m rounds left -/
def gL (E : En) (keep : List Nat) (b : Cd) (m : Nat) (k : List KJ) (st : St) : Option XOut := (loopF E.Γ E.ps E.n keep b m st).bind (back E k)
/-- its head, in its plain form -/
def gH (E : En) (keep : List Nat) (b : Cd) (k : List KJ) : Nat → St → Option XOut
  | 0, _ => none
  | m + 1, st => G E b (.l keep b m :: k) st
def gC (E : En) (keep : List Nat) (b : Cd) (m : Nat) (k : List KJ) (st : Option St) : Option XOut := match st with
  | some st => gH E keep b k m st
  | none => none
def endG (E : En) (watch live : List Nat) (k : List KJ) : Ex × St × List Nat → Option XOut
  | (.normal, st', T) => if clash st' watch T then none else back E k (.normal, st'.only live)
  | (e, st', T) => if clash st' watch T then none else back E k (e, st'.forget E.ps)
def gT (E : En) (watch live : List Nat) (l : List SOper) (T : List Nat) (k : List KJ) (st : St) : Option XOut :=
  (runT E.Γ l st).bind fun x => endG E watch live k (x.1, x.2.1, T ++ x.2.2)
def gOutT (E : En) (watch live : List Nat) (d : Option Nat) (op : SOp) (x : Option Out) (l : List SOper) (T : List Nat) (k : List KJ) (st : St) : Option XOut := x.bind fun
  | .val a us => if op.quiet && !us.isEmpty then none else gT E watch live l (T ++ touched op st.ob us) k (({ st with ob := updAll st.ob us } : St).put d a)
  | .pan x us => endG E watch live k (.panic x, { st with ob := updAll st.ob us }, T)
/-- a test -/
def gIf {α : Type} (c : Option Bool) (x y : Option α) : Option α := match c with
  | some true => x
  | some false => y
  | none => none
/-- a test that is open -/
def br {α : Type} (c : Bool) (x y : Option α) : Option α := if c = true then x else y

section
variable {E : En} {k : List KJ} {st : St}

theorem G_skip : G E .skip k st = back E k (.normal, st) := rfl
theorem G_ret : G E .ret k st = back E k (.ret, st) := rfl
theorem G_exit (id : Nat) : G E (.exit id) k st = back E k (.exit id, st) := rfl
theorem G_sq (a b : Cd) : G E (sq a b) k st = G E a (.c b :: k) st := by
  unfold G sq
  simp only [run]
  cases h : run E.Γ E.ps E.n a st with
  | none => rfl
  | some p => obtain ⟨e, s⟩ := p; cases e <;> simp [back]
theorem G_block (id : Nat) (b : Cd) : G E (.block id b) k st = G E b (.b id :: k) st := by
  unfold G
  simp only [run]
  cases h : run E.Γ E.ps E.n b st with
  | none => rfl
  | some p =>
    obtain ⟨e, s⟩ := p
    cases e <;> simp [back]
    split <;> simp_all [back]
theorem G_cond (c : SA) (x y : Cd) : G E (.cond c x y) k st = gIf (truth (st.get c)) (G E x k st) (G E y k st) := by
  unfold G
  simp only [run]
  cases hc : st.get c with
  | d z =>
    cases z with
    | bool b => cases b <;> simp [truth, gIf]
    | _ => rfl
  | _ => rfl
theorem G_r (live : List Nat) (l : List SOper) : G E (r live l) k st = gOps E l (.v live :: k) st := by
  unfold G gOps r
  simp only [run]
  cases h : runOps E.Γ l st with
  | none => rfl
  | some p => obtain ⟨e, s⟩ := p; cases e <;> simp [back]
theorem G_rd (watch live : List Nat) (l : List SOper) : G E (rd watch live l) k st = gT E watch live l [] k st := by
  unfold G gT rd
  simp only [run]
  cases h : runT E.Γ l st with
  | none => rfl
  | some p =>
    obtain ⟨e, s, T⟩ := p
    cases e <;> simp only [Option.bind_some, List.nil_append, endG] <;> split <;> rfl
theorem G_loop (keep : List Nat) (b : Cd) : G E (.loop keep b) k st = gL E keep b E.n k st := rfl
theorem gL_eq (keep : List Nat) (b : Cd) (m : Nat) : gL E keep b m k st = gC E keep b m k (canon E.ps keep st) := by
  unfold gL loopF gC
  cases m with
  | zero => cases canon E.ps keep st <;> rfl
  | succ m =>
    simp only [iter]
    cases canon E.ps keep st with
    | none => rfl
    | some s =>
      simp only [Option.bind_some, gH, G]
      cases run E.Γ E.ps E.n b s with
      | none => rfl
      | some p => obtain ⟨e, s'⟩ := p; cases e <;> rfl
theorem gC_some (keep : List Nat) (b : Cd) (m : Nat) : gC E keep b m k (some st) = gH E keep b k m st := rfl
theorem gH_zero (keep : List Nat) (b : Cd) : gH E keep b k 0 st = none := rfl
theorem gH_succ (keep : List Nat) (b : Cd) (m : Nat) : gH E keep b k (m + 1) st = G E b (.l keep b m :: k) st := rfl
theorem gOps_nil : gOps E [] k st = back E k (.normal, st) := rfl
theorem gOps_cons (x : SOper) (l : List SOper) (h : x.guard = none) :
    gOps E (x :: l) k st = gOut E x.dst (eval E.Γ st.ob (x.dst.getD 0) x.op (x.args.map st.get)) l k st := by
  unfold gOps gOut
  simp only [runOps, step, h]
  cases eval E.Γ st.ob (x.dst.getD 0) x.op (x.args.map st.get) with
  | none => rfl
  | some p => cases p <;> rfl
theorem gOps_o (d : Nat) (op : SOp) (as : List SA) (l : List SOper) :
    gOps E (o d op as :: l) k st = gOut E (some d) (eval E.Γ st.ob d op (as.map st.get)) l k st := gOps_cons _ _ rfl
theorem gOps_e (op : SOp) (as : List SA) (l : List SOper) :
    gOps E (e op as :: l) k st = gOut E none (eval E.Γ st.ob 0 op (as.map st.get)) l k st := gOps_cons _ _ rfl
/-- a guarded operation -/
def gGd (a : A) (w : Bool) (x y z : Option XOut) : Option XOut := match a with
  | .d (.bool b) => if b = w then x else y
  | .tup [] => z
  | _ => none
@[congr] theorem gGd_congr {a a' : A} {w : Bool} {x y z : Option XOut} (h : a = a') : gGd a w x y z = gGd a' w x y z := by rw [h]
theorem gGd_t (b : Bool) (x y z : Option XOut) : gGd (.d (.bool b)) true x y z = gIf (some b) x y := by cases b <;> rfl
theorem gGd_f (b : Bool) (x y z : Option XOut) : gGd (.d (.bool b)) false x y z = gIf (some b) y x := by cases b <;> rfl
theorem gGd_n (w : Bool) (x y z : Option XOut) : gGd (.tup []) w x y z = z := rfl
theorem upd_id {α : Type} {s : Nat → α} {c : Nat} {a : α} (h : s c = a) : upd s c a = s := by
  funext n
  unfold upd
  split
  · rename_i e; subst e; exact h.symm
  · rfl
theorem gGd_eq {s : Nat → A} {c : Nat} {w : Bool} (f g : (Nat → A) → Option XOut) {r : Option XOut}
    (h1 : s c = .d (.bool w) → r = f s) (h2 : (∃ b, s c = .d (.bool b) ∧ b ≠ w) → r = g s) (h3 : s c = .tup [] → r = g s) (h4 : wants (s c) w = none → r = none) :
    r = gGd (s c) w (f (upd s c (.d (.bool w)))) (g (upd s c (.d (.bool !w)))) (g s) := by
  unfold gGd
  split
  · rename_i b hb
    by_cases e : b = w
    · subst e
      rw [if_pos rfl, upd_id hb]; exact h1 hb
    · have : b = !w := by cases b <;> cases w <;> first | rfl | exact absurd rfl e
      rw [if_neg e, h2 ⟨b, hb, e⟩, upd_id (by rw [hb, this])]
  · rename_i hb; exact h3 hb
  · rename_i a h5 h6
    refine h4 ?_
    unfold wants
    split
    · rename_i b hb; exact absurd hb (h5 b)
    · rename_i hb; exact absurd hb h6
    · rfl
theorem gOps_g (s : Nat → A) (ob : Nat → Ob) (c : Nat) (w : Bool) (d : Nat) (op : SOp) (as : List SA) (l : List SOper) :
    gOps E (g c w d op as :: l) k ⟨s, ob⟩ = gGd (s c) w (gOut E (some d) (eval E.Γ ob d op (as.map (St.get ⟨upd s c (.d (.bool w)), ob⟩))) l k ⟨upd s c (.d (.bool w)), ob⟩)
      (gOps E l k ⟨upd (upd s c (.d (.bool !w))) d (.tup []), ob⟩) (gOps E l k ⟨upd s d (.tup []), ob⟩) := by
  have hst : step E.Γ (g c w d op as) ⟨s, ob⟩ = match wants (s c) w with
      | some true => (eval E.Γ ob d op (as.map (St.get ⟨s, ob⟩))).map (fun
        | Out.val a us => (Ex.normal, ({ slot := s, ob := updAll ob us } : St).put (some d) a)
        | .pan x us => (.panic x, { slot := s, ob := updAll ob us }))
      | some false => some (.normal, ⟨upd s d (.tup []), ob⟩)
      | none => none := rfl
  refine gGd_eq (fun s => gOut E (some d) (eval E.Γ ob d op (as.map (St.get ⟨s, ob⟩))) l k ⟨s, ob⟩) (fun s => gOps E l k ⟨upd s d (.tup []), ob⟩) ?_ ?_ ?_ ?_
  · intro h
    unfold gOps gOut
    simp only [runOps, hst, h, wants, beq_self_eq_true]
    cases eval E.Γ ob d op (as.map (St.get ⟨s, ob⟩)) with
    | none => rfl
    | some p => cases p <;> rfl
  · rintro ⟨b, h, hne⟩
    have : (b == w) = false := by simpa using hne
    unfold gOps
    simp only [runOps, hst, h, wants, this]
    rfl
  · intro h
    unfold gOps
    simp only [runOps, hst, h, wants]
    rfl
  · intro h
    unfold gOps
    simp only [runOps, hst, h]
    rfl
theorem gOut_val0 (d : Nat) (a : A) (l : List SOper) : gOut E (some d) (some (.val a [])) l k st = gOps E l k { slot := upd st.slot d a, ob := st.ob } := rfl
theorem gOut_val (d : Nat) (a : A) (u : Nat × Ob) (us : List (Nat × Ob)) (l : List SOper) :
    gOut E (some d) (some (.val a (u :: us))) l k st = gOps E l k { slot := upd st.slot d a, ob := updAll st.ob (u :: us) } := rfl
theorem gOut_none (a : A) (us : List (Nat × Ob)) (l : List SOper) : gOut E none (some (.val a us)) l k st = gOps E l k { slot := st.slot, ob := updAll st.ob us } := rfl
theorem gOut_pan (d : Option Nat) (x : D) (us : List (Nat × Ob)) (l : List SOper) :
    gOut E d (some (.pan x us)) l k st = back E k (.panic x, { slot := st.slot, ob := updAll st.ob us }) := rfl
theorem gOut_bind {α : Type} (d : Option Nat) (x : Option α) (f : α → Option Out) (l : List SOper) :
    gOut E d (x.bind f) l k st = x.bind fun y => gOut E d (f y) l k st := by
  unfold gOut; rw [Option.bind_assoc]
theorem gOut_ite (d : Option Nat) (p : Prop) [Decidable p] (x y : Option Out) (l : List SOper) :
    gOut E d (if p then x else y) l k st = if p then gOut E d x l k st else gOut E d y l k st := by
  split <;> rfl
theorem gOut_no (d : Option Nat) (l : List SOper) : gOut E d none l k st = none := rfl

theorem gT_nil (watch live : List Nat) (T : List Nat) : gT E watch live [] T k st = endG E watch live k (.normal, st, T) := by
  simp only [gT, runT, Option.bind_some, List.append_nil]
theorem endG_normal (watch live : List Nat) (T : List Nat) : endG E watch live k (.normal, st, T) = if clash st watch T = true then none else back E k (.normal, st.only live) := rfl
theorem endG_panic (watch live : List Nat) (T : List Nat) (x : D) : endG E watch live k (.panic x, st, T) = if clash st watch T = true then none else back E k (.panic x, st.forget E.ps) := rfl
theorem gT_o (watch live : List Nat) (T : List Nat) (d : Nat) (op : SOp) (as : List SA) (l : List SOper) :
    gT E watch live (o d op as :: l) T k st = gOutT E watch live (some d) op (eval E.Γ st.ob d op (as.map st.get)) l T k st := by
  unfold gT gOutT
  simp only [runT, exec, o, Option.getD_some]
  cases eval E.Γ st.ob d op (as.map st.get) with
  | none => rfl
  | some p =>
    cases p with
    | val a us =>
      simp only [Option.bind_some]
      by_cases hq : (op.quiet && !us.isEmpty) = true
      · simp only [hq, if_true]; rfl
      · simp only [hq]
        unfold gT
        simp only [Bool.false_eq_true, if_false, Option.bind_some]
        cases runT E.Γ l (({ st with ob := updAll st.ob us } : St).put (some d) a) with
        | none => rfl
        | some z => simp only [Option.map_some, Option.bind_some, List.append_assoc]
    | pan x us =>
      simp only [Option.bind_some, List.append_nil]
theorem gT_e (watch live : List Nat) (T : List Nat) (op : SOp) (as : List SA) (l : List SOper) :
    gT E watch live (e op as :: l) T k st = gOutT E watch live none op (eval E.Γ st.ob 0 op (as.map st.get)) l T k st := by
  unfold gT gOutT
  simp only [runT, exec, e, Option.getD_none]
  cases eval E.Γ st.ob 0 op (as.map st.get) with
  | none => rfl
  | some p =>
    cases p with
    | val a us =>
      simp only [Option.bind_some]
      by_cases hq : (op.quiet && !us.isEmpty) = true
      · simp only [hq, if_true]; rfl
      · simp only [hq]
        unfold gT
        simp only [Bool.false_eq_true, if_false, Option.bind_some]
        cases runT E.Γ l (({ st with ob := updAll st.ob us } : St).put none a) with
        | none => rfl
        | some z => simp only [Option.map_some, Option.bind_some, List.append_assoc]
    | pan x us =>
      simp only [Option.bind_some, List.append_nil]
theorem gT_g (s : Nat → A) (ob : Nat → Ob) (watch live T : List Nat) (c : Nat) (w : Bool) (d : Nat) (op : SOp) (as : List SA) (l : List SOper) :
    gT E watch live (g c w d op as :: l) T k ⟨s, ob⟩ = gGd (s c) w (gOutT E watch live (some d) op (eval E.Γ ob d op (as.map (St.get ⟨upd s c (.d (.bool w)), ob⟩))) l T k ⟨upd s c (.d (.bool w)), ob⟩)
      (gT E watch live l T k ⟨upd (upd s c (.d (.bool !w))) d (.tup []), ob⟩) (gT E watch live l T k ⟨upd s d (.tup []), ob⟩) := by
  have hex : exec E.Γ (g c w d op as) ⟨s, ob⟩ = match wants (s c) w with
      | some true => exec E.Γ (o d op as) ⟨s, ob⟩
      | some false => some (.normal, ⟨upd s d (.tup []), ob⟩, [])
      | none => none := rfl
  refine gGd_eq (fun s => gOutT E watch live (some d) op (eval E.Γ ob d op (as.map (St.get ⟨s, ob⟩))) l T k ⟨s, ob⟩) (fun s => gT E watch live l T k ⟨upd s d (.tup []), ob⟩) ?_ ?_ ?_ ?_
  · intro h
    refine Eq.trans ?_ (gT_o (E := E) (k := k) (st := ⟨s, ob⟩) watch live T d op as l)
    unfold gT
    simp only [runT, hex, h, wants, beq_self_eq_true]
  · rintro ⟨b, h, hne⟩
    have : (b == w) = false := by simpa using hne
    unfold gT
    simp only [runT, hex, h, wants, this, Option.bind_some]
    cases runT E.Γ l ⟨upd s d (.tup []), ob⟩ <;> rfl
  · intro h
    unfold gT
    simp only [runT, hex, h, wants, Option.bind_some]
    cases runT E.Γ l ⟨upd s d (.tup []), ob⟩ <;> rfl
  · intro h
    unfold gT
    simp only [runT, hex, h]
    rfl
theorem gOutT_val0 (watch live : List Nat) (T : List Nat) (d : Nat) (op : SOp) (a : A) (l : List SOper) :
    gOutT E watch live (some d) op (some (.val a [])) l T k st = gT E watch live l T k { slot := upd st.slot d a, ob := st.ob } := by
  unfold gOutT
  simp [touched, updAll, St.put]
theorem gOutT_val (watch live : List Nat) (T : List Nat) (d : Nat) (op : SOp) (hq : op.quiet = false) (a : A) (u : Nat × Ob) (us : List (Nat × Ob)) (l : List SOper) :
    gOutT E watch live (some d) op (some (.val a (u :: us))) l T k st = gT E watch live l (T ++ touched op st.ob (u :: us)) k { slot := upd st.slot d a, ob := updAll st.ob (u :: us) } := by
  unfold gOutT
  simp [hq, St.put]
theorem gOutT_none (watch live : List Nat) (T : List Nat) (op : SOp) (hq : op.quiet = false) (a : A) (us : List (Nat × Ob)) (l : List SOper) :
    gOutT E watch live none op (some (.val a us)) l T k st = gT E watch live l (T ++ touched op st.ob us) k { slot := st.slot, ob := updAll st.ob us } := by
  unfold gOutT
  simp [hq, St.put]
theorem gOutT_pan (watch live : List Nat) (T : List Nat) (d : Option Nat) (op : SOp) (x : D) (us : List (Nat × Ob)) (l : List SOper) :
    gOutT E watch live d op (some (.pan x us)) l T k st = endG E watch live k (.panic x, { slot := st.slot, ob := updAll st.ob us }, T) := rfl
theorem gOutT_bind {α : Type} (watch live : List Nat) (T : List Nat) (d : Option Nat) (op : SOp) (x : Option α) (f : α → Option Out) (l : List SOper) :
    gOutT E watch live d op (x.bind f) l T k st = x.bind fun y => gOutT E watch live d op (f y) l T k st := by
  unfold gOutT; rw [Option.bind_assoc]
theorem gOutT_ite (watch live : List Nat) (T : List Nat) (d : Option Nat) (op : SOp) (p : Prop) [Decidable p] (x y : Option Out) (l : List SOper) :
    gOutT E watch live d op (if p then x else y) l T k st = if p then gOutT E watch live d op x l T k st else gOutT E watch live d op y l T k st := by
  split <;> rfl
theorem gOutT_no (watch live : List Nat) (T : List Nat) (d : Option Nat) (op : SOp) (l : List SOper) : gOutT E watch live d op none l T k st = none := rfl

theorem back_nil (e : Ex) : back E [] (e, st) = fin E (leave E.ps E.rs (e, st)) := rfl
theorem back_c (x : Cd) : back E (.c x :: k) (.normal, st) = G E x k st := rfl
theorem back_c_ret (x : Cd) : back E (.c x :: k) (.ret, st) = back E k (.ret, st) := rfl
theorem back_c_exit (x : Cd) (j : Nat) : back E (.c x :: k) (.exit j, st) = back E k (.exit j, st) := rfl
theorem back_c_panic (x : Cd) (y : D) : back E (.c x :: k) (.panic y, st) = back E k (.panic y, st) := rfl
theorem back_b (id : Nat) : back E (.b id :: k) (.normal, st) = back E k (.normal, st) := rfl
theorem back_b_ret (id : Nat) : back E (.b id :: k) (.ret, st) = back E k (.ret, st) := rfl
theorem back_b_exit (id j : Nat) : back E (.b id :: k) (.exit j, st) = if j = id then back E k (.normal, st) else back E k (.exit j, st) := rfl
theorem back_b_panic (id : Nat) (y : D) : back E (.b id :: k) (.panic y, st) = back E k (.panic y, st) := rfl
theorem back_v (live : List Nat) (s : Nat → A) (ob : Nat → Ob) : back E (.v live :: k) (.normal, ⟨s, ob⟩) = back E k (.normal, ⟨slotsOf (live.map fun n => (n, s n)), ob⟩) := rfl
theorem back_v_panic (live : List Nat) (y : D) : back E (.v live :: k) (.panic y, st) = back E k (.panic y, st) := rfl
theorem back_l (keep : List Nat) (b : Cd) (m : Nat) : back E (.l keep b m :: k) (.normal, st) = gL E keep b m k st := rfl
theorem back_l_ret (keep : List Nat) (b : Cd) (m : Nat) : back E (.l keep b m :: k) (.ret, st) = back E k (.ret, st) := rfl
theorem back_l_exit (keep : List Nat) (b : Cd) (m j : Nat) : back E (.l keep b m :: k) (.exit j, st) = back E k (.exit j, st) := rfl
theorem back_l_panic (keep : List Nat) (b : Cd) (m : Nat) (y : D) : back E (.l keep b m :: k) (.panic y, st) = back E k (.panic y, st) := rfl

/-- a call, with what is made of its end -/
theorem callF_G {Γ : Ctx} {n : Nat} (wk : XOut → Option XOut) (m : Nat) (c : Cd) (rs : List RV) (xs : List X) (h : xs.length = m ∧ xs.all argOk = true ∧ distinct ((enter 0 xs).2.map (·.1)) = true) :
    (callF Γ n m c rs xs).bind wk = G ⟨Γ, (enter 0 xs).2.map (·.1), n, rs, wk⟩ c [] { slot := slotsOf (enter 0 xs).1, ob := obsOf (enter 0 xs).2 } := by
  unfold callF G
  rw [if_pos h, Option.bind_assoc]
  rfl
end
end Go.Vm
