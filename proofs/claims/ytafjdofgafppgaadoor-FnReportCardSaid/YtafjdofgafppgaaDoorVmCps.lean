/- Running the abstract machine by rewriting, to the end of the call: every test that is open stays an 'if'. -/
import Derived.Test.YtafjdofgafppgaaDoorVmEv
set_option linter.unusedSectionVars false
set_option linter.unusedSimpArgs false
set_option linter.unusedVariables false
namespace Go.Vm

inductive KJ where
  | c (x : Cd)
  | b (id : Nat)
  | v (live : List Nat)
  | l (keep : List Nat) (b : Cd) (m : Nat)
  | df (da keep : List Nat) (b : Cd)

/-- what does not change in a call: the contracts, the lent boxes, the rounds, the results, and what is made of the end -/
structure En where
  Γ : Ctx
  ps : List Nat
  -- what is lent; the lent rows' kinds
  pl : List Nat
  ck : List (Nat × KO)
  n : Nat
  rs : List RV
  -- a deferred call that waits: the boxes that it is handed, the slots that lead to them; what it makes of a panic
  dd : Option (List Nat × List Nat)
  fd : D → List X → Option (List (List D))
  wk : XOut → Option XOut
/-- behind the deferred call -/
def En.behind (E : En) (ids da : List Nat) : En := { E with ps := E.ps ++ ids, dd := some (ids, da) }
def endE (E : En) (dd : Option (List Nat × List Nat)) (p : Ex × St) : Option XOut := match dd with
  | none => endP E.pl E.ck E.rs p
  | some (ids, da) => endD E.Γ E.fd E.pl ids da E.ck E.rs p

def back (E : En) : List KJ → Ex × St → Option XOut
  | [], p => (endE E E.dd p).bind E.wk
  | .c x :: k, (.normal, st) => (run E.Γ E.ps E.n x st).bind (back E k)
  | .c _ :: k, (e, st) => back E k (e, st)
  | .b id :: k, (.exit j, st) => if j = id then back E k (.normal, st) else back E k (.exit j, st)
  | .b _ :: k, (e, st) => back E k (e, st)
  | .v live :: k, (.normal, st) => back E k (.normal, st.only live)
  | .v _ :: k, (e, st) => back E k (e, st)
  | .l keep b m :: k, (.normal, st) => (loopF E.Γ E.ps E.n keep b m st).bind (back E k)
  | .l .. :: k, (e, st) => back E k (e, st)
  | .df da keep b :: _, (.normal, st) => (adrIds st.ob (da.map st.slot)).bind fun ids => (canon (E.ps ++ ids) keep st).bind fun st =>
      (run E.Γ (E.ps ++ ids) E.n b st).bind fun p => (endD E.Γ E.fd E.pl ids da E.ck E.rs p).bind E.wk
  | .df .. :: k, (e, st) => back E k (e, st)

def fin (E : En) (x : Option XOut) : Option XOut := x.bind E.wk
def G (E : En) (c : Cd) (k : List KJ) (st : St) : Option XOut := (run E.Γ E.ps E.n c st).bind (back E k)
def gOps (E : En) (l : List SOper) (k : List KJ) (st : St) : Option XOut := (runOps E.Γ l st).bind (back E k)
def gOut (E : En) (d : Option Nat) (x : Option Out) (l : List SOper) (k : List KJ) (st : St) : Option XOut := x.bind fun
  | .val a us => gOps E l k (({ st with ob := updAll st.ob us } : St).put d a)
  | .pan x us => back E k (.panic x, { st with ob := updAll st.ob us })
def gSt (E : En) (k : List KJ) (e : Ex) (st : St) : Option XOut := back E k (e, st)
/-- a loop, m rounds left -/
def gL (E : En) (keep : List Nat) (b : Cd) (m : Nat) (k : List KJ) (st : St) : Option XOut := (loopF E.Γ E.ps E.n keep b m st).bind (back E k)
/-- its head, in its plain form -/
def gH (E : En) (keep : List Nat) (b : Cd) (k : List KJ) : Nat → St → Option XOut
  | 0, _ => none
  | m + 1, st => G E b (.l keep b m :: k) st
def gC (E : En) (keep : List Nat) (b : Cd) (m : Nat) (k : List KJ) (st : Option St) : Option XOut := match st with
  | some st => gH E keep b k m st
  | none => none
def endG (E : En) (live : List Nat) (k : List KJ) : Ex × St → Option XOut
  | (.normal, st') => back E k (.normal, st'.only live)
  | (e, st') => back E k (e, st'.forget E.ps)
def gT (E : En) (live : List Nat) (l : List SOper) (k : List KJ) (st : St) : Option XOut := (runT E.Γ E.ps.isEmpty l st).bind (endG E live k)
def gOutT (E : En) (live : List Nat) (d : Option Nat) (op : SOp) (x : Option Out) (l : List SOper) (k : List KJ) (st : St) : Option XOut := x.bind fun
  | .val a us => if op.quiet && !us.isEmpty then none else gT E live l k (({ st with ob := updAll st.ob us } : St).put d a)
  | .pan x us => endG E live k (.panic x, { st with ob := updAll st.ob us })
/-- a test -/
def gIf {α : Type} (c : Option Bool) (x y : Option α) : Option α := match c with
  | some true => x
  | some false => y
  | none => none
/-- a test that is open -/
def br {α : Type} (c : Bool) (x y : Option α) : Option α := if c = true then x else y

section
variable {E : En} {k : List KJ} {st : St}

theorem G_skip : G E .skip k st = back E k (.normal, st) := rfl
theorem G_ret : G E .ret k st = back E k (.ret, st) := rfl
theorem G_exit (id : Nat) : G E (.exit id) k st = back E k (.exit id, st) := rfl
theorem G_sq (a b : Cd) : G E (sq a b) k st = G E a (.c b :: k) st := by
  unfold G sq
  simp only [run]
  cases h : run E.Γ E.ps E.n a st with
  | none => rfl
  | some p => obtain ⟨e, s⟩ := p; cases e <;> simp [back]
theorem G_block (id : Nat) (b : Cd) : G E (.block id b) k st = G E b (.b id :: k) st := by
  unfold G
  simp only [run]
  cases h : run E.Γ E.ps E.n b st with
  | none => rfl
  | some p =>
    obtain ⟨e, s⟩ := p
    cases e <;> simp [back]
    split <;> simp_all [back]
theorem G_scope (b : Cd) : G E (.scope b) k st = G E b k st := by
  unfold G; simp only [run]
/-- a box that is known by what it holds from here on -/
def gFz (E : En) (b : Cd) (k : List KJ) (st : St) : A → Option XOut
  | .adr id ver _ => (boxAt st.ob id ver).bind fun cells => (snaps st.ob cells).bind fun p =>
      G E b k { slot := st.slot, ob := updAll st.ob (leaks st.ob p.2 ++ [(id, { st.ob id with o := .box (p.1.map dA) })]) }
  | _ => G E b k st
theorem G_frz (m : Nat) (b : Cd) : G E (.frz m b) k st = gFz E b k st (st.slot m) := by
  unfold G gFz
  simp only [run, St.frz]
  cases st.slot m <;> try rfl
  rename_i id ver off
  dsimp only
  cases h : boxAt st.ob id ver with
  | none => rfl
  | some cells =>
    simp only [Option.bind_some]
    cases h2 : snaps st.ob cells with
    | none => rfl
    | some p => rfl
theorem G_cond (c : SA) (x y : Cd) : G E (.cond c x y) k st = gIf (truth (st.get c)) (G E x k st) (G E y k st) := by
  unfold G
  simp only [run]
  cases hc : st.get c with
  | d z =>
    cases z with
    | bool b => cases b <;> simp [truth, gIf]
    | _ => rfl
  | _ => rfl
theorem G_r (live : List Nat) (l : List SOper) : G E (r live l) k st = gOps E l (.v live :: k) st := by
  unfold G gOps r
  simp only [run]
  cases h : runOps E.Γ l st with
  | none => rfl
  | some p => obtain ⟨e, s⟩ := p; cases e <;> simp [back]
theorem G_rd (watch live : List Nat) (l : List SOper) : G E (rd watch live l) k st = gT E live l k st := by
  unfold G gT rd
  simp only [run]
  cases h : runT E.Γ E.ps.isEmpty l st with
  | none => rfl
  | some p =>
    obtain ⟨e, s⟩ := p
    cases e <;> rfl
theorem G_loop (keep : List Nat) (b : Cd) : G E (.loop keep b) k st = gL E keep b E.n k st := rfl
theorem gL_eq (keep : List Nat) (b : Cd) (m : Nat) : gL E keep b m k st = gC E keep b m k (canon E.ps keep st) := by
  unfold gL loopF gC
  cases m with
  | zero => cases canon E.ps keep st <;> rfl
  | succ m =>
    simp only [iter]
    cases canon E.ps keep st with
    | none => rfl
    | some s =>
      simp only [Option.bind_some, gH, G]
      cases run E.Γ E.ps E.n b s with
      | none => rfl
      | some p => obtain ⟨e, s'⟩ := p; cases e <;> rfl
theorem gC_some (keep : List Nat) (b : Cd) (m : Nat) : gC E keep b m k (some st) = gH E keep b k m st := rfl
theorem gH_zero (keep : List Nat) (b : Cd) : gH E keep b k 0 st = none := rfl
theorem gH_succ (keep : List Nat) (b : Cd) (m : Nat) : gH E keep b k (m + 1) st = G E b (.l keep b m :: k) st := rfl
theorem gOps_nil : gOps E [] k st = back E k (.normal, st) := rfl
theorem gOps_cons (x : SOper) (l : List SOper) (h : x.guard = none) :
    gOps E (x :: l) k st = gOut E x.dst (eval E.Γ st.ob (x.dst.getD 0) x.op (x.args.map st.get)) l k st := by
  unfold gOps gOut
  simp only [runOps, step, h]
  cases eval E.Γ st.ob (x.dst.getD 0) x.op (x.args.map st.get) with
  | none => rfl
  | some p => cases p <;> rfl
theorem gOps_o (d : Nat) (op : SOp) (as : List SA) (l : List SOper) :
    gOps E (o d op as :: l) k st = gOut E (some d) (eval E.Γ st.ob d op (as.map st.get)) l k st := gOps_cons _ _ rfl
theorem gOps_e (op : SOp) (as : List SA) (l : List SOper) :
    gOps E (e op as :: l) k st = gOut E none (eval E.Γ st.ob 0 op (as.map st.get)) l k st := gOps_cons _ _ rfl
/-- a guarded operation -/
def gGd (a : A) (w : Bool) (x y z : Option XOut) : Option XOut := match a with
  | .d (.bool b) => if b = w then x else y
  | .tup [] => z
  | _ => none
@[congr] theorem gGd_congr {a a' : A} {w : Bool} {x y z : Option XOut} (h : a = a') : gGd a w x y z = gGd a' w x y z := by rw [h]
theorem gGd_t (b : Bool) (x y z : Option XOut) : gGd (.d (.bool b)) true x y z = gIf (some b) x y := by cases b <;> rfl
theorem gGd_f (b : Bool) (x y z : Option XOut) : gGd (.d (.bool b)) false x y z = gIf (some b) y x := by cases b <;> rfl
theorem gGd_n (w : Bool) (x y z : Option XOut) : gGd (.tup []) w x y z = z := rfl
theorem upd_id {α : Type} {s : Nat → α} {c : Nat} {a : α} (h : s c = a) : upd s c a = s := by
  funext n
  unfold upd
  split
  · rename_i e; subst e; exact h.symm
  · rfl
theorem gGd_eq {s : Nat → A} {c : Nat} {w : Bool} (f g : (Nat → A) → Option XOut) {r : Option XOut}
    (h1 : s c = .d (.bool w) → r = f s) (h2 : (∃ b, s c = .d (.bool b) ∧ b ≠ w) → r = g s) (h3 : s c = .tup [] → r = g s) (h4 : wants (s c) w = none → r = none) :
    r = gGd (s c) w (f (upd s c (.d (.bool w)))) (g (upd s c (.d (.bool !w)))) (g s) := by
  unfold gGd
  split
  · rename_i b hb
    by_cases e : b = w
    · subst e
      rw [if_pos rfl, upd_id hb]; exact h1 hb
    · have : b = !w := by cases b <;> cases w <;> first | rfl | exact absurd rfl e
      rw [if_neg e, h2 ⟨b, hb, e⟩, upd_id (by rw [hb, this])]
  · rename_i hb; exact h3 hb
  · rename_i a h5 h6
    refine h4 ?_
    unfold wants
    split
    · rename_i b hb; exact absurd hb (h5 b)
    · rename_i hb; exact absurd hb h6
    · rfl
theorem gOps_g (s : Nat → A) (ob : Nat → Ob) (c : Nat) (w : Bool) (d : Nat) (op : SOp) (as : List SA) (l : List SOper) :
    gOps E (g c w d op as :: l) k ⟨s, ob⟩ = gGd (s c) w (gOut E (some d) (eval E.Γ ob d op (as.map (St.get ⟨upd s c (.d (.bool w)), ob⟩))) l k ⟨upd s c (.d (.bool w)), ob⟩)
      (gOps E l k ⟨upd (upd s c (.d (.bool !w))) d (.tup []), ob⟩) (gOps E l k ⟨upd s d (.tup []), ob⟩) := by
  have hst : step E.Γ (g c w d op as) ⟨s, ob⟩ = match wants (s c) w with
      | some true => (eval E.Γ ob d op (as.map (St.get ⟨s, ob⟩))).map (fun
        | Out.val a us => (Ex.normal, ({ slot := s, ob := updAll ob us } : St).put (some d) a)
        | .pan x us => (.panic x, { slot := s, ob := updAll ob us }))
      | some false => some (.normal, ⟨upd s d (.tup []), ob⟩)
      | none => none := rfl
  refine gGd_eq (fun s => gOut E (some d) (eval E.Γ ob d op (as.map (St.get ⟨s, ob⟩))) l k ⟨s, ob⟩) (fun s => gOps E l k ⟨upd s d (.tup []), ob⟩) ?_ ?_ ?_ ?_
  · intro h
    unfold gOps gOut
    simp only [runOps, hst, h, wants, beq_self_eq_true]
    cases eval E.Γ ob d op (as.map (St.get ⟨s, ob⟩)) with
    | none => rfl
    | some p => cases p <;> rfl
  · rintro ⟨b, h, hne⟩
    have : (b == w) = false := by simpa using hne
    unfold gOps
    simp only [runOps, hst, h, wants, this]
    rfl
  · intro h
    unfold gOps
    simp only [runOps, hst, h, wants]
    rfl
  · intro h
    unfold gOps
    simp only [runOps, hst, h]
    rfl
theorem gOut_val0 (d : Nat) (a : A) (l : List SOper) : gOut E (some d) (some (.val a [])) l k st = gOps E l k { slot := upd st.slot d a, ob := st.ob } := rfl
theorem gOut_val (d : Nat) (a : A) (u : Nat × Ob) (us : List (Nat × Ob)) (l : List SOper) :
    gOut E (some d) (some (.val a (u :: us))) l k st = gOps E l k { slot := upd st.slot d a, ob := updAll st.ob (u :: us) } := rfl
theorem gOut_none (a : A) (us : List (Nat × Ob)) (l : List SOper) : gOut E none (some (.val a us)) l k st = gOps E l k { slot := st.slot, ob := updAll st.ob us } := rfl
theorem gOut_pan (d : Option Nat) (x : D) (us : List (Nat × Ob)) (l : List SOper) :
    gOut E d (some (.pan x us)) l k st = back E k (.panic x, { slot := st.slot, ob := updAll st.ob us }) := rfl
theorem gOut_bind {α : Type} (d : Option Nat) (x : Option α) (f : α → Option Out) (l : List SOper) :
    gOut E d (x.bind f) l k st = x.bind fun y => gOut E d (f y) l k st := by
  unfold gOut; rw [Option.bind_assoc]
theorem gOut_ite (d : Option Nat) (p : Prop) [Decidable p] (x y : Option Out) (l : List SOper) :
    gOut E d (if p then x else y) l k st = if p then gOut E d x l k st else gOut E d y l k st := by
  split <;> rfl
theorem gOut_no (d : Option Nat) (l : List SOper) : gOut E d none l k st = none := rfl

theorem gT_nil (live : List Nat) : gT E live [] k st = endG E live k (.normal, st) := rfl
theorem endG_normal (live : List Nat) : endG E live k (.normal, st) = back E k (.normal, st.only live) := rfl
theorem endG_panic (live : List Nat) (x : D) : endG E live k (.panic x, st) = back E k (.panic x, st.forget E.ps) := rfl
theorem exec_nb {Γ : Ctx} {c : Bool} {x : SOper} (h1 : x.fb = []) (h2 : x.fl = false) (h3 : x.guard = none) (h4 : x.wt = []) {st : St} : exec Γ c x st = (eval Γ st.ob (x.dst.getD 0) x.op (x.args.map st.get)).bind fun
    | .val a us => if (x.op.quiet && !us.isEmpty) = true then none else some (.normal, ({ st with ob := updAll st.ob us } : St).put x.dst a)
    | .pan z us => some (.panic z, { st with ob := updAll st.ob us }) := by
  unfold exec
  rw [h1, h2, h3, h4]
  simp only [leads, hits, strikes, Bool.and_false, Bool.false_and, Bool.or_false, Bool.false_eq_true, if_false, List.isEmpty_nil, Bool.true_or, if_true]
  rfl
theorem gT_nb (live : List Nat) {x : SOper} (h1 : x.fb = []) (h2 : x.fl = false) (h3 : x.guard = none) (h4 : x.wt = []) (l : List SOper) :
    gT E live (x :: l) k st = gOutT E live x.dst x.op (eval E.Γ st.ob (x.dst.getD 0) x.op (x.args.map st.get)) l k st := by
  unfold gT gOutT
  simp only [runT, exec_nb h1 h2 h3 h4]
  cases eval E.Γ st.ob (x.dst.getD 0) x.op (x.args.map st.get) with
  | none => rfl
  | some p =>
    cases p with
    | val a us =>
      simp only [Option.bind_some]
      by_cases hq : (x.op.quiet && !us.isEmpty) = true
      · simp only [hq, if_true]; rfl
      · simp only [hq]
        simp only [Bool.false_eq_true, if_false, Option.bind_some, gT]
    | pan z us => rfl
theorem gT_o (live : List Nat) (d : Nat) (op : SOp) (as : List SA) (l : List SOper) :
    gT E live (o d op as :: l) k st = gOutT E live (some d) op (eval E.Γ st.ob d op (as.map st.get)) l k st := gT_nb live rfl rfl rfl rfl l
theorem gT_e (live : List Nat) (op : SOp) (as : List SA) (l : List SOper) :
    gT E live (e op as :: l) k st = gOutT E live none op (eval E.Γ st.ob 0 op (as.map st.get)) l k st := gT_nb live rfl rfl rfl rfl l
/-! beside operations that make one object -/
def ifN {α : Type} (c : Bool) (x : Option α) : Option α := match c with
  | true => none
  | false => x
@[congr] theorem ifN_congr {α : Type} {c c' : Bool} {x : Option α} (h : c = c') : ifN c x = ifN c' x := by rw [h]
theorem ifN_t {α : Type} (x : Option α) : ifN true x = none := rfl
theorem ifN_f {α : Type} (x : Option α) : ifN false x = x := rfl
theorem ifN_ite {α : Type} (c : Bool) (x : Option α) : (if c = true then none else x) = ifN c x := by cases c <;> rfl
/-- not one object -/
def ne1 : List (Nat × Ob) → Bool
  | [_] => false
  | _ => true
theorem ne1_0 : ne1 [] = true := rfl
theorem ne1_1 (u : Nat × Ob) : ne1 [u] = false := rfl
theorem ne1_2 (u v : Nat × Ob) (r : List (Nat × Ob)) : ne1 (u :: v :: r) = true := rfl
theorem ne1_eq (us : List (Nat × Ob)) : (us.length != 1) = ne1 us := by
  cases us with
  | nil => rfl
  | cons u r => cases r <;> simp [ne1]
def readsA : List SA → List Nat
  | [] => []
  | .t n :: r => n :: readsA r
  | .k _ :: r => readsA r
theorem readsA_eq (as : List SA) : (as.filterMap fun | .t n => some n | .k _ => none) = readsA as := by
  induction as with
  | nil => rfl
  | cons a r ih => cases a <;> simp [readsA, ih]
theorem readsA_nil : readsA [] = [] := rfl
theorem readsA_t (n : Nat) (r : List SA) : readsA (t n :: r) = n :: readsA r := rfl
theorem readsA_i (v : Int) (r : List SA) : readsA (i v :: r) = readsA r := rfl
theorem readsA_b (v : Bool) (r : List SA) : readsA (b v :: r) = readsA r := rfl
theorem readsA_s (v : List UInt8) (r : List SA) : readsA (s v :: r) = readsA r := rfl
theorem readsA_n (r : List SA) : readsA (n :: r) = readsA r := rfl
theorem readsA_k (a : A) (r : List SA) : readsA (.k a :: r) = readsA r := rfl
/-- neither of the slots leads to one of the objects -/
def leadsN (fb : List Nat) (s : Nat → A) (ns : List Nat) : Bool := ns.any fun n => (refsD (s n)).any fun i => fb.any (· == i)
theorem leads_N {fb : List Nat} {st : St} {ns : List Nat} : leads fb st ns = leadsN fb st.slot ns := by
  cases fb with
  | nil => simp [leads, leadsN]
  | cons f fb => rfl
theorem leadsN_nil (fb : List Nat) (s : Nat → A) : leadsN fb s [] = false := rfl
theorem leadsN_0 (s : Nat → A) (ns : List Nat) : leadsN [] s ns = false := by simp [leadsN]
theorem leadsN_cons (fb : List Nat) (s : Nat → A) (m : Nat) (ns : List Nat) : leadsN fb s (m :: ns) = ((refsD (s m)).any (fun i => fb.any (· == i)) || leadsN fb s ns) := rfl
theorem hits_any {fb : List Nat} {us : List (Nat × Ob)} : hits fb us = us.any fun p => fb.any (· == p.1) := by
  cases fb with
  | nil => simp [hits]
  | cons f fb => rfl
theorem refsD_row (i v : Nat) : refsD (.row i v) = [i] := by simp only [refsD]
theorem refsD_adr (i v o : Nat) : refsD (.adr i v o) = [i] := by simp only [refsD]
theorem refsD_rad (i v o : Nat) : refsD (.rad i v o) = [i] := by simp only [refsD]
theorem refsD_agg (cs : List A) : refsD (.agg cs) = refsDs cs := by simp only [refsD]
theorem refsD_tup (cs : List A) : refsD (.tup cs) = refsDs cs := by simp only [refsD]
theorem refsD_d (x : D) : refsD (.d x) = [] := by simp only [refsD]
theorem refsD_nil : refsD .nil = [] := by simp only [refsD]
theorem refsD_undef : refsD .undef = [] := by simp only [refsD]
theorem refsD_cp (cs : List D) : refsD (.cp cs) = [] := by simp only [refsD]
theorem refsDs_nil : refsDs [] = [] := by simp only [refsDs]
theorem refsDs_cons (a : A) (r : List A) : refsDs (a :: r) = refsD a ++ refsDs r := by simp only [refsDs]
/-- one of the slots leads to one of the objects -/
def strikesN (wt : List Nat) (s : Nat → A) (T : List Nat) : Bool := wt.any fun n => (refs (s n)).any fun id => T.any (· == id)
theorem strikes_N {wt : List Nat} {st : St} {T : List Nat} : strikes wt st T = strikesN wt st.slot T := by
  cases wt with
  | nil => simp [strikes, strikesN]
  | cons f fb => rfl
theorem strikesN_nil (s : Nat → A) (T : List Nat) : strikesN [] s T = false := rfl
theorem strikesN_0 (wt : List Nat) (s : Nat → A) : strikesN wt s [] = false := by simp [strikesN]
theorem strikesN_cons (n : Nat) (wt : List Nat) (s : Nat → A) (T : List Nat) : strikesN (n :: wt) s T = ((refs (s n)).any (fun id => T.any (· == id)) || strikesN wt s T) := rfl
/-- what is refused beside other operations -/
def offN (fb : List Nat) (fl : Bool) (wt : List Nat) (s : Nat → A) (op : SOp) (ob : Nat → Ob) (us : List (Nat × Ob)) : Bool :=
  (op.quiet && !us.isEmpty) || (us.any fun p => fb.any (· == p.1)) || (fl && ne1 us) || (!fl && strikesN wt s (touched op ob us))
theorem offN_eq (fb : List Nat) (fl : Bool) (wt : List Nat) (s : Nat → A) (op : SOp) (ob : Nat → Ob) (us : List (Nat × Ob)) : offN fb fl wt s op ob us =
  ((op.quiet && !us.isEmpty) || (us.any fun p => fb.any (· == p.1)) || (fl && ne1 us) || (!fl && strikesN wt s (touched op ob us))) := rfl
/-- whether a panic is not borne -/
def panN (c : Bool) (fb : List Nat) (us : List (Nat × Ob)) : Bool := !fb.isEmpty && (!c || (us.any fun p => fb.any (· == p.1)))
theorem panN_eq (c : Bool) (fb : List Nat) (us : List (Nat × Ob)) : panN c fb us = (!fb.isEmpty && (!c || (us.any fun p => fb.any (· == p.1)))) := rfl
theorem panN_ite {α : Type} (c : Bool) (fb : List Nat) (us : List (Nat × Ob)) (x : Option α) : (if (fb.isEmpty || (c && !(us.any fun p => fb.any (· == p.1)))) = true then x else none) = ifN (panN c fb us) x := by
  cases fb with
  | nil => rfl
  | cons a fb =>
    unfold panN
    cases c <;> cases (us.any fun p => (a :: fb).any (· == p.1)) <;> rfl
def gOutF (E : En) (live : List Nat) (fb : List Nat) (fl : Bool) (wt : List Nat) (d : Option Nat) (op : SOp) (x : Option Out) (l : List SOper) (k : List KJ) (st : St) : Option XOut := x.bind fun
  | .val a us => ifN (offN fb fl wt st.slot op st.ob us) (gT E live l k (({ st with ob := updAll st.ob us } : St).put d a))
  | .pan x us => ifN (panN E.ps.isEmpty fb us) (endG E live k (.panic x, { st with ob := updAll st.ob us }))
@[congr] theorem gOutF_congr {v fb : List Nat} {fl : Bool} {wt : List Nat} {d : Option Nat} {op : SOp} {x x' : Option Out} {l : List SOper} (h : x = x') :
    gOutF E v fb fl wt d op x l k st = gOutF E v fb fl wt d op x' l k st := by rw [h]
theorem exec_ap {Γ : Ctx} {c : Bool} {fb : List Nat} {fl : Bool} {wt : List Nat} {d : Option Nat} {op : SOp} {as : List SA} : exec Γ c ⟨d, op, as, none, fb, fl, wt⟩ st = ifN (leadsN fb st.slot (readsA as)) ((eval Γ st.ob (d.getD 0) op (as.map st.get)).bind fun
    | .val a us => ifN (offN fb fl wt st.slot op st.ob us) (some (.normal, ({ st with ob := updAll st.ob us } : St).put d a))
    | .pan z us => ifN (panN c fb us) (some (.panic z, { st with ob := updAll st.ob us }))) := by
  have hrd : (⟨d, op, as, none, fb, fl, wt⟩ : SOper).reads = readsA as := by
    show (as.filterMap fun | .t n => some n | .k _ => none) ++ [] = _
    rw [List.append_nil, readsA_eq]
  unfold exec
  rw [hrd]
  simp only [leads_N, ifN_ite, ne1_eq, hits_any, strikes_N]
  congr 2
  funext z
  cases z with
  | val a us => rfl
  | pan x us => exact panN_ite ..
theorem gT_ap (live : List Nat) (fb : List Nat) (fl : Bool) (wt : List Nat) (d : Option Nat) (op : SOp) (as : List SA) (l : List SOper) :
    gT E live (⟨d, op, as, none, fb, fl, wt⟩ :: l) k st = ifN (leadsN fb st.slot (readsA as)) (gOutF E live fb fl wt d op (eval E.Γ st.ob (d.getD 0) op (as.map st.get)) l k st) := by
  unfold gT gOutF
  simp only [runT, exec_ap]
  cases leadsN fb st.slot (readsA as) with
  | true => rfl
  | false =>
    simp only [ifN_f]
    cases eval E.Γ st.ob (d.getD 0) op (as.map st.get) with
    | none => rfl
    | some p =>
      cases p with
      | val a us =>
        simp only [Option.bind_some]
        cases offN fb fl wt st.slot op st.ob us with
        | true => rfl
        | false => simp only [ifN_f, Option.bind_some]; rfl
      | pan z us =>
        simp only [Option.bind_some]
        cases panN E.ps.isEmpty fb us with
        | true => rfl
        | false => simp only [ifN_f, Option.bind_some]
theorem gT_apo (live : List Nat) (fb : List Nat) (fl : Bool) (wt : List Nat) (d : Nat) (op : SOp) (as : List SA) (l : List SOper) :
    gT E live (ap fb fl wt (o d op as) :: l) k st = ifN (leadsN fb st.slot (readsA as)) (gOutF E live fb fl wt (some d) op (eval E.Γ st.ob d op (as.map st.get)) l k st) := gT_ap ..
theorem gT_ape (live : List Nat) (fb : List Nat) (fl : Bool) (wt : List Nat) (op : SOp) (as : List SA) (l : List SOper) :
    gT E live (ap fb fl wt (e op as) :: l) k st = ifN (leadsN fb st.slot (readsA as)) (gOutF E live fb fl wt none op (eval E.Γ st.ob 0 op (as.map st.get)) l k st) := gT_ap ..
theorem gOutF_val (live : List Nat) (fb : List Nat) (fl : Bool) (wt : List Nat) (d : Nat) (op : SOp) (a : A) (us : List (Nat × Ob)) (l : List SOper) :
    gOutF E live fb fl wt (some d) op (some (.val a us)) l k st = ifN (offN fb fl wt st.slot op st.ob us) (gT E live l k { slot := upd st.slot d a, ob := updAll st.ob us }) := rfl
theorem gOutF_none (live : List Nat) (fb : List Nat) (fl : Bool) (wt : List Nat) (op : SOp) (a : A) (us : List (Nat × Ob)) (l : List SOper) :
    gOutF E live fb fl wt none op (some (.val a us)) l k st = ifN (offN fb fl wt st.slot op st.ob us) (gT E live l k { slot := st.slot, ob := updAll st.ob us }) := rfl
theorem gOutF_pan (live : List Nat) (fb : List Nat) (fl : Bool) (wt : List Nat) (d : Option Nat) (op : SOp) (x : D) (us : List (Nat × Ob)) (l : List SOper) :
    gOutF E live fb fl wt d op (some (.pan x us)) l k st = ifN (panN E.ps.isEmpty fb us) (endG E live k (.panic x, { slot := st.slot, ob := updAll st.ob us })) := rfl
theorem gOutF_bind {α : Type} (live : List Nat) (fb : List Nat) (fl : Bool) (wt : List Nat) (d : Option Nat) (op : SOp) (x : Option α) (f : α → Option Out) (l : List SOper) :
    gOutF E live fb fl wt d op (x.bind f) l k st = x.bind fun y => gOutF E live fb fl wt d op (f y) l k st := by
  unfold gOutF; rw [Option.bind_assoc]
theorem gOutF_ite (live : List Nat) (fb : List Nat) (fl : Bool) (wt : List Nat) (d : Option Nat) (op : SOp) (p : Prop) [Decidable p] (x y : Option Out) (l : List SOper) :
    gOutF E live fb fl wt d op (if p then x else y) l k st = if p then gOutF E live fb fl wt d op x l k st else gOutF E live fb fl wt d op y l k st := by
  split <;> rfl
theorem gOutF_no (live : List Nat) (fb : List Nat) (fl : Bool) (wt : List Nat) (d : Option Nat) (op : SOp) (l : List SOper) : gOutF E live fb fl wt d op none l k st = none := rfl
theorem qt_call (f : FuncId) : SOp.quiet (.call f) = false := rfl
theorem qt_dyn : SOp.quiet .dyn = false := rfl
theorem qt_box : SOp.quiet .box = false := rfl
theorem qt_alloc (z : List A) : SOp.quiet (.alloc z) = false := rfl
theorem qt_lit (e s l : Nat) : SOp.quiet (lit e s l) = false := rfl
theorem qt_mkS (e s b : Nat) (z : List D) : SOp.quiet (.mkS e s b z) = false := rfl
theorem qt_app (e s b : Nat) : SOp.quiet (.app e s b) = false := rfl
theorem qt_st (n : Nat) : SOp.quiet (.st n) = false := rfl
theorem isE_nil {α : Type} : ([] : List α).isEmpty = true := rfl
theorem isE_cons {α : Type} (a : α) (l : List α) : (a :: l).isEmpty = false := rfl
/-- what a guarded operation beside makers does -/
theorem gT_apg (s : Nat → A) (ob : Nat → Ob) (live : List Nat) (fb : List Nat) (fl : Bool) (wt : List Nat) (c : Nat) (w : Bool) (d : Nat) (op : SOp) (as : List SA) (l : List SOper) :
    gT E live (ap fb fl wt (g c w d op as) :: l) k ⟨s, ob⟩ = ifN (leadsN fb s (readsA as) || leadsN fb s [c]) (gGd (s c) w (gOutF E live fb fl wt (some d) op (eval E.Γ ob d op (as.map (St.get ⟨upd s c (.d (.bool w)), ob⟩))) l k ⟨upd s c (.d (.bool w)), ob⟩)
      (gT E live l k ⟨upd (upd s c (.d (.bool !w))) d (.tup []), ob⟩) (gT E live l k ⟨upd s d (.tup []), ob⟩)) := by
  have hrd : leads (ap fb fl wt (g c w d op as)).fb ⟨s, ob⟩ (ap fb fl wt (g c w d op as)).reads = (leadsN fb s (readsA as) || leadsN fb s [c]) := by
    rw [leads_N]
    show leadsN fb s ((as.filterMap fun | .t n => some n | .k _ => none) ++ [c]) = _
    rw [readsA_eq]
    unfold leadsN
    rw [List.any_append]
  have hex : exec E.Γ E.ps.isEmpty (ap fb fl wt (g c w d op as)) ⟨s, ob⟩ = ifN (leadsN fb s (readsA as) || leadsN fb s [c]) (match wants (s c) w with
      | some true => (eval E.Γ ob d op (as.map (St.get ⟨s, ob⟩))).bind fun
        | .val a us => ifN (offN fb fl wt s op ob us) (some (.normal, ({ slot := s, ob := updAll ob us } : St).put (some d) a))
        | .pan z us => ifN (panN E.ps.isEmpty fb us) (some (.panic z, { slot := s, ob := updAll ob us }))
      | some false => some (.normal, ⟨upd s d (.tup []), ob⟩)
      | none => none) := by
    rw [← hrd]
    unfold exec
    cases leads (ap fb fl wt (g c w d op as)).fb ⟨s, ob⟩ (ap fb fl wt (g c w d op as)).reads with
    | true => rfl
    | false =>
      simp only [Bool.false_eq_true, if_false, ifN_f]
      show (match wants (s c) w with
        | some true => _
        | some false => _
        | none => _) = _
      cases wants (s c) w with
      | none => rfl
      | some b =>
        cases b with
        | false => rfl
        | true =>
          simp only [ifN_ite, ne1_eq, hits_any, strikes_N]
          show (eval E.Γ ob d op (as.map (St.get ⟨s, ob⟩))).bind _ = _
          congr 1
          funext z
          cases z with
          | val a us => rfl
          | pan x us => exact panN_ite ..
  cases hc : (leadsN fb s (readsA as) || leadsN fb s [c]) with
  | true =>
    rw [hc] at hex
    unfold gT
    simp only [runT, hex, ifN_t]
    rfl
  | false =>
    rw [hc, ifN_f] at hex
    rw [ifN_f]
    refine gGd_eq (fun s' => gOutF E live fb fl wt (some d) op (eval E.Γ ob d op (as.map (St.get ⟨s', ob⟩))) l k ⟨s', ob⟩) (fun s => gT E live l k ⟨upd s d (.tup []), ob⟩) ?_ ?_ ?_ ?_
    · intro h
      unfold gT gOutF
      simp only [runT, hex, h, wants, beq_self_eq_true]
      cases eval E.Γ ob d op (as.map (St.get ⟨s, ob⟩)) with
      | none => rfl
      | some p =>
        cases p with
        | val a us =>
          simp only [Option.bind_some]
          cases offN fb fl wt s op ob us with
          | true => rfl
          | false => simp only [ifN_f, Option.bind_some]; rfl
        | pan z us =>
          simp only [Option.bind_some]
          cases panN E.ps.isEmpty fb us with
          | true => rfl
          | false => simp only [ifN_f, Option.bind_some]
    · rintro ⟨b, h, hne⟩
      have : (b == w) = false := by simpa using hne
      unfold gT
      simp only [runT, hex, h, wants, this, Option.bind_some]
    · intro h
      unfold gT
      simp only [runT, hex, h, wants, Option.bind_some]
    · intro h
      unfold gT
      simp only [runT, hex, h]
      rfl
theorem gT_g (s : Nat → A) (ob : Nat → Ob) (live : List Nat) (c : Nat) (w : Bool) (d : Nat) (op : SOp) (as : List SA) (l : List SOper) :
    gT E live (g c w d op as :: l) k ⟨s, ob⟩ = gGd (s c) w (gOutT E live (some d) op (eval E.Γ ob d op (as.map (St.get ⟨upd s c (.d (.bool w)), ob⟩))) l k ⟨upd s c (.d (.bool w)), ob⟩)
      (gT E live l k ⟨upd (upd s c (.d (.bool !w))) d (.tup []), ob⟩) (gT E live l k ⟨upd s d (.tup []), ob⟩) := by
  have hex : exec E.Γ E.ps.isEmpty (g c w d op as) ⟨s, ob⟩ = match wants (s c) w with
      | some true => exec E.Γ E.ps.isEmpty (o d op as) ⟨s, ob⟩
      | some false => some (.normal, ⟨upd s d (.tup []), ob⟩)
      | none => none := rfl
  refine gGd_eq (fun s => gOutT E live (some d) op (eval E.Γ ob d op (as.map (St.get ⟨s, ob⟩))) l k ⟨s, ob⟩) (fun s => gT E live l k ⟨upd s d (.tup []), ob⟩) ?_ ?_ ?_ ?_
  · intro h
    refine Eq.trans ?_ (gT_o (E := E) (k := k) (st := ⟨s, ob⟩) live d op as l)
    unfold gT
    simp only [runT, hex, h, wants, beq_self_eq_true]
  · rintro ⟨b, h, hne⟩
    have : (b == w) = false := by simpa using hne
    unfold gT
    simp only [runT, hex, h, wants, this, Option.bind_some]
  · intro h
    unfold gT
    simp only [runT, hex, h, wants, Option.bind_some]
  · intro h
    unfold gT
    simp only [runT, hex, h]
    rfl
theorem gOutT_val0 (live : List Nat) (d : Nat) (op : SOp) (a : A) (l : List SOper) :
    gOutT E live (some d) op (some (.val a [])) l k st = gT E live l k { slot := upd st.slot d a, ob := st.ob } := by
  unfold gOutT
  simp [updAll, St.put]
theorem gOutT_val (live : List Nat) (d : Nat) (op : SOp) (hq : op.quiet = false) (a : A) (u : Nat × Ob) (us : List (Nat × Ob)) (l : List SOper) :
    gOutT E live (some d) op (some (.val a (u :: us))) l k st = gT E live l k { slot := upd st.slot d a, ob := updAll st.ob (u :: us) } := by
  unfold gOutT
  simp [hq, St.put]
theorem gOutT_none (live : List Nat) (op : SOp) (hq : op.quiet = false) (a : A) (us : List (Nat × Ob)) (l : List SOper) :
    gOutT E live none op (some (.val a us)) l k st = gT E live l k { slot := st.slot, ob := updAll st.ob us } := by
  unfold gOutT
  simp [hq, St.put]
theorem gOutT_pan (live : List Nat) (d : Option Nat) (op : SOp) (x : D) (us : List (Nat × Ob)) (l : List SOper) :
    gOutT E live d op (some (.pan x us)) l k st = endG E live k (.panic x, { slot := st.slot, ob := updAll st.ob us }) := rfl
theorem gOutT_bind {α : Type} (live : List Nat) (d : Option Nat) (op : SOp) (x : Option α) (f : α → Option Out) (l : List SOper) :
    gOutT E live d op (x.bind f) l k st = x.bind fun y => gOutT E live d op (f y) l k st := by
  unfold gOutT; rw [Option.bind_assoc]
theorem gOutT_ite (live : List Nat) (d : Option Nat) (op : SOp) (p : Prop) [Decidable p] (x y : Option Out) (l : List SOper) :
    gOutT E live d op (if p then x else y) l k st = if p then gOutT E live d op x l k st else gOutT E live d op y l k st := by
  split <;> rfl
theorem gOutT_no (live : List Nat) (d : Option Nat) (op : SOp) (l : List SOper) : gOutT E live d op none l k st = none := rfl

/-- the end of the call -/
def gEnd (E : En) (dd : Option (List Nat × List Nat)) (e : Ex) (st : St) : Option XOut := (endE E dd (e, st)).bind E.wk
@[congr] theorem gEnd_congr {E : En} {dd dd' : Option (List Nat × List Nat)} {e : Ex} {st : St} (h : dd = dd') : gEnd E dd e st = gEnd E dd' e st := by rw [h]
theorem back_nil (e : Ex) : back E [] (e, st) = gEnd E E.dd e st := rfl
theorem gEnd_none (e : Ex) : gEnd E none e st = if kindsAs st.ob E.ck = true then fin E (leave E.pl E.rs (e, st)) else none := by
  show (if kindsAs st.ob E.ck = true then leave E.pl E.rs (e, st) else none : Option XOut).bind E.wk = _
  split <;> rfl
theorem gEnd_ret (x : List Nat × List Nat) : gEnd E (some x) .ret st = gEnd E none .ret st := rfl
theorem gEnd_normal (x : List Nat × List Nat) : gEnd E (some x) .normal st = gEnd E none .normal st := rfl
/-- the panic's answer, brought in -/
def recS (da ids : List Nat) (ob : Nat → Ob) : Out → Option St
  | .val _ us => some { slot := slotsOf (adrSlots da ids), ob := updAll ob us }
  | .pan .. => none
theorem recS_val (da ids : List Nat) (ob : Nat → Ob) (a : A) (us : List (Nat × Ob)) : recS da ids ob (.val a us) = some ⟨slotsOf (adrSlots da ids), updAll ob us⟩ := rfl
/-- of a panic, where only what is lent is still known -/
def recB (E : En) (ids da : List Nat) (x : D) (ob : Nat → Ob) : Option St := (toXs false ob (ids.map fun id => .adr id 1 0)).bind fun p =>
  if (distinct p.2.2 && !(p.2.2.any fun m => p.2.1.any (· == m))) = true then (E.fd x p.1).bind fun outs => (backOf E.Γ ob 0 p.2.1 p.2.2 (.ret (.tup []) outs)).bind (recS da ids ob) else none
theorem recov_eq (ps ids da : List Nat) (x : D) : recov E.Γ E.fd ps ids da x st = recB E ids da x (st.forget ps).ob := by
  unfold recov recB
  cases toXs false (st.forget ps).ob (ids.map fun id => .adr id 1 0) with
  | none => rfl
  | some p =>
    obtain ⟨xs, ls, ms⟩ := p
    simp only [Option.bind_some]
    split
    · cases E.fd x xs with
      | none => rfl
      | some outs =>
        simp only [Option.bind_some]
        cases backOf E.Γ (st.forget ps).ob 0 ls ms (.ret (.tup []) outs) with
        | none => rfl
        | some o => cases o <;> rfl
    · rfl
/-- the objects that are still known after a panic -/
def keepOb (ps : List Nat) (ob : Nat → Ob) : List (Nat × Ob) := ps.map fun id => (id, ⟨(ob id).ver, stillO ob (ob id).o, false⟩)
theorem forget_ob (ps : List Nat) (s : Nat → A) (ob : Nat → Ob) : (St.forget ⟨s, ob⟩ ps) = ⟨fun _ => .undef, obsOf (keepOb ps ob)⟩ := by
  unfold St.forget keepOb
  congr 1
  funext id
  show (if ps.any (· == id) = true then (⟨(ob id).ver, stillO ob (ob id).o, false⟩ : Ob) else {}) = _
  induction ps with
  | nil => rfl
  | cons p ps ih =>
    simp only [List.map_cons, obsOf, List.any_cons]
    by_cases h : id = p
    · subst h; simp
    · have : (p == id) = false := by simpa using fun e => h e.symm
      simp only [this, Bool.false_or, if_neg h]
      exact ih
def gRec (E : En) (ids da : List Nat) (x : D) (st : St) : Option XOut := (recB E ids da x st.ob).bind fun st' => gEnd E none .ret st'
theorem gEnd_pan (ids da : List Nat) (x : D) : gEnd E (some (ids, da)) (.panic x) st = gRec E ids da x (st.forget (E.pl ++ ids)) := by
  show ((recov E.Γ E.fd (E.pl ++ ids) ids da x st).bind fun st' => endP E.pl E.ck E.rs (.ret, st')).bind E.wk = _
  rw [recov_eq, Option.bind_assoc]; rfl
theorem gRec_eq (ids da : List Nat) (x : D) (s : Nat → A) (ob : Nat → Ob) : gRec E ids da x ⟨s, ob⟩ = (toXs false ob (ids.map fun id => .adr id 1 0)).bind fun p =>
  if (distinct p.2.2 && !(p.2.2.any fun m => p.2.1.any (· == m))) = true then (E.fd x p.1).bind fun outs => (backOf E.Γ ob 0 p.2.1 p.2.2 (.ret (.tup []) outs)).bind fun o => (recS da ids ob o).bind fun st' => gEnd E none .ret st' else none := by
  unfold gRec recB
  rw [Option.bind_assoc]
  congr 1
  funext p
  split
  · rw [Option.bind_assoc]
    congr 1
    funext outs
    rw [Option.bind_assoc]
  · rfl
theorem backOf_ret (Γ : Ctx) (ob : Nat → Ob) (d : Nat) (ls ms : List Nat) (x : X) (outs : List (List D)) : backOf Γ ob d ls ms (.ret x outs) =
    (backs ob ms outs).bind fun bs => some (.val (parA (updAll ob bs) ms x (ofX (updAll ob bs) d x 0).1) ((if (plainX Γ.fl x && outs.all flatOut) = true then [] else leaks ob ls) ++ (bs ++ (ofX (updAll ob bs) d x 0).2.1))) := by
  simp only [backOf]; cases backs ob ms outs <;> rfl
theorem adrSlots_nil : adrSlots [] [] = [] := rfl
theorem adrSlots_cons (t id : Nat) (ts ids : List Nat) : adrSlots (t :: ts) (id :: ids) = (t, .adr id 1 0) :: adrSlots ts ids := rfl
theorem adrIds_nil (ob : Nat → Ob) : adrIds ob [] = some [] := rfl
theorem adrIds_cons (ob : Nat → Ob) (id : Nat) (r : List A) : adrIds ob (.adr id 1 0 :: r) = if (ob id).ver = 1 ∧ (ob id).o.isBox = true then (adrIds ob r).bind fun x => some (id :: x) else none := by
  simp only [adrIds]
  split
  · cases adrIds ob r <;> rfl
  · rfl
theorem isBox_box (cs : List A) : O.isBox (.box cs) = true := rfl
/-- the code behind the deferred call, from a state in its plain form -/
def gB (E : En) (b : Cd) (st : St) : Option XOut := G E b [] st
theorem gB_eq (b : Cd) : gB E b st = G E b [] st := rfl
def gDf (E : En) (ids da : List Nat) (b : Cd) (x : Option St) : Option XOut := x.bind fun st => gB (E.behind ids da) b st
@[congr] theorem gDf_congr {E : En} {ids da : List Nat} {b : Cd} {x x' : Option St} (h : x = x') : gDf E ids da b x = gDf E ids da b x' := by rw [h]
theorem gDf_some (ids da : List Nat) (b : Cd) : gDf E ids da b (some st) = gB (E.behind ids da) b st := rfl
theorem behind_n (ids da : List Nat) : (E.behind ids da).n = E.n := rfl
theorem back_end_behind (ids da : List Nat) (p : Ex × St) : back (E.behind ids da) [] p = (endD E.Γ E.fd E.pl ids da E.ck E.rs p).bind E.wk := rfl
theorem back_df (da keep : List Nat) (b : Cd) (s : Nat → A) (ob : Nat → Ob) : back E (.df da keep b :: k) (.normal, ⟨s, ob⟩) = (adrIds ob (da.map s)).bind fun ids => gDf E ids da b (canon (E.ps ++ ids) keep ⟨s, ob⟩) := by
  rfl
theorem back_df_ret (da keep : List Nat) (b : Cd) : back E (.df da keep b :: k) (.ret, st) = back E k (.ret, st) := rfl
theorem back_df_panic (da keep : List Nat) (b : Cd) (y : D) : back E (.df da keep b :: k) (.panic y, st) = back E k (.panic y, st) := rfl
theorem back_c (x : Cd) : back E (.c x :: k) (.normal, st) = G E x k st := rfl
theorem back_c_ret (x : Cd) : back E (.c x :: k) (.ret, st) = back E k (.ret, st) := rfl
theorem back_c_exit (x : Cd) (j : Nat) : back E (.c x :: k) (.exit j, st) = back E k (.exit j, st) := rfl
theorem back_c_panic (x : Cd) (y : D) : back E (.c x :: k) (.panic y, st) = back E k (.panic y, st) := rfl
theorem back_b (id : Nat) : back E (.b id :: k) (.normal, st) = back E k (.normal, st) := rfl
theorem back_b_ret (id : Nat) : back E (.b id :: k) (.ret, st) = back E k (.ret, st) := rfl
theorem back_b_exit (id j : Nat) : back E (.b id :: k) (.exit j, st) = if j = id then back E k (.normal, st) else back E k (.exit j, st) := rfl
theorem back_b_panic (id : Nat) (y : D) : back E (.b id :: k) (.panic y, st) = back E k (.panic y, st) := rfl
theorem back_v (live : List Nat) (s : Nat → A) (ob : Nat → Ob) : back E (.v live :: k) (.normal, ⟨s, ob⟩) = back E k (.normal, ⟨slotsOf (live.map fun n => (n, s n)), ob⟩) := rfl
theorem back_v_panic (live : List Nat) (y : D) : back E (.v live :: k) (.panic y, st) = back E k (.panic y, st) := rfl
theorem back_l (keep : List Nat) (b : Cd) (m : Nat) : back E (.l keep b m :: k) (.normal, st) = gL E keep b m k st := rfl
theorem back_l_ret (keep : List Nat) (b : Cd) (m : Nat) : back E (.l keep b m :: k) (.ret, st) = back E k (.ret, st) := rfl
theorem back_l_exit (keep : List Nat) (b : Cd) (m j : Nat) : back E (.l keep b m :: k) (.exit j, st) = back E k (.exit j, st) := rfl
theorem back_l_panic (keep : List Nat) (b : Cd) (m : Nat) (y : D) : back E (.l keep b m :: k) (.panic y, st) = back E k (.panic y, st) := rfl

/-- a call, with what is made of its end -/
theorem callF_G {Γ : Ctx} {n : Nat} (wk : XOut → Option XOut) (m : Nat) (c : Cd) (rs : List RV) (xs : List X) (h : xs.length = m ∧ xs.all argOk = true ∧ distinct ((enter 0 xs).2.map (·.1)) = true) :
    (callF Γ n m c rs xs).bind wk = G ⟨Γ, (enter 0 xs).2.map (·.1), (enter 0 xs).2.map (·.1), rowsIn (enter 0 xs).2, n, rs, none, fun _ _ => none, wk⟩ c [] { slot := slotsOf (enter 0 xs).1, ob := obsOf (enter 0 xs).2 } := by
  unfold callF G
  rw [if_pos h, Option.bind_assoc]
  congr 1
/-- the same, where there is a deferred call -/
theorem callFD_G {Γ : Ctx} {FD : D → List X → Option (List (List D))} {n : Nat} (wk : XOut → Option XOut) (m : Nat) (a : Cd) (da keep : List Nat) (b : Cd) (rs : List RV) (xs : List X)
    (h : xs.length = m ∧ xs.all argOk = true ∧ distinct ((enter 0 xs).2.map (·.1)) = true) :
    (callFD Γ FD n m a da keep b rs xs).bind wk = G ⟨Γ, (enter 0 xs).2.map (·.1), (enter 0 xs).2.map (·.1), rowsIn (enter 0 xs).2, n, rs, none, FD, wk⟩ a [.df da keep b] { slot := slotsOf (enter 0 xs).1, ob := obsOf (enter 0 xs).2 } := by
  unfold callFD G
  rw [if_pos h, Option.bind_assoc]
  congr 1
  funext p
  obtain ⟨e, st⟩ := p
  cases e with
  | normal =>
    simp only [back]
    rw [Option.bind_assoc]
    congr 1
    funext ids
    rw [Option.bind_assoc]
    congr 1
    funext st'
    rw [Option.bind_assoc]
  | _ => rfl
/-- the rest of a function that recovers -/
theorem callR_G {Γ : Ctx} {n : Nat} (m b : Nat) (c : Cd) (x : D) (xs : List X) (h : xs.length = m ∧ xs.all argOk = true ∧ distinct ((enter 0 xs).2.map (·.1)) = true) :
    callR Γ n m b c x xs = (G ⟨Γ, (enter 0 xs).2.map (·.1), (enter 0 xs).2.map (·.1), rowsIn (enter 0 xs).2, n, [], none, fun _ _ => none, some⟩ c [] { slot := slotsOf ((b, .d x) :: (enter 0 xs).1), ob := obsOf (enter 0 xs).2 }).bind fun
      | .ret (.tup []) outs => some outs
      | _ => none := by
  unfold callR G
  rw [if_pos h, Option.bind_assoc, Option.bind_assoc]
  congr 1
  funext p
  show (endP _ _ _ p).bind _ = ((endP _ _ _ p).bind some).bind _
  cases endP ((enter 0 xs).2.map (·.1)) (rowsIn (enter 0 xs).2) [] p <;> rfl
end
end Go.Vm
