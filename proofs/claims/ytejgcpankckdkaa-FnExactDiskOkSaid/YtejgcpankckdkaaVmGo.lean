/- Running the abstract machine by rewriting: equations without a continuation under a binder. -/
import Derived.Test.YtejgcpankckdkaaVmDef
set_option linter.unusedSectionVars false
set_option linter.unusedSimpArgs false
set_option linter.unusedVariables false
namespace Go.Vm

inductive KI where
  | c (x : Cd)
  | b (id : Nat)
  | v (live : List Nat)

def resume (Γ : Ctx) (ps : List Nat) (n : Nat) : List KI → Ex × St → Option (Ex × St)
  | [], p => some p
  | .c x :: k, (.normal, st) => (run Γ ps n x st).bind (resume Γ ps n k)
  | .c _ :: k, (e, st) => resume Γ ps n k (e, st)
  | .b id :: k, (.exit j, st) => if j = id then resume Γ ps n k (.normal, st) else resume Γ ps n k (.exit j, st)
  | .b _ :: k, (e, st) => resume Γ ps n k (e, st)
  | .v live :: k, (.normal, st) => resume Γ ps n k (.normal, st.only live)
  | .v _ :: k, (e, st) => resume Γ ps n k (e, st)

def truth : A → Option Bool
  | .d (.bool b) => some b
  | _ => none
def goIf {α : Type} (c : Option Bool) (x y : Option α) : Option α := match c with
  | some true => x
  | some false => y
  | none => none
@[congr] theorem goIf_congr {α : Type} {c c' : Option Bool} {x y : Option α} (h : c = c') : goIf c x y = goIf c' x y := by rw [h]
theorem goIf_true {α : Type} {x y : Option α} : goIf (some true) x y = x := rfl
theorem goIf_false {α : Type} {x y : Option α} : goIf (some false) x y = y := rfl
theorem truth_b (b : Bool) : truth (.d (.bool b)) = some b := rfl

def go (Γ : Ctx) (ps : List Nat) (n : Nat) (c : Cd) (k : List KI) (st : St) : Option (Ex × St) := (run Γ ps n c st).bind (resume Γ ps n k)
def goOps (Γ : Ctx) (ps : List Nat) (n : Nat) (l : List SOper) (k : List KI) (st : St) : Option (Ex × St) := (runOps Γ l st).bind (resume Γ ps n k)
def goOut (Γ : Ctx) (ps : List Nat) (n : Nat) (d : Option Nat) (x : Option Out) (l : List SOper) (k : List KI) (st : St) : Option (Ex × St) :=
  match x with
  | none => none
  | some (.val a us) => goOps Γ ps n l k (({ st with ob := updAll st.ob us } : St).put d a)
  | some (.pan x us) => resume Γ ps n k (.panic x, { st with ob := updAll st.ob us })
@[congr] theorem goOut_congr {Γ : Ctx} {ps : List Nat} {n : Nat} {d : Option Nat} {x x' : Option Out} {l : List SOper} {k : List KI} {st : St} (h : x = x') :
    goOut Γ ps n d x l k st = goOut Γ ps n d x' l k st := by rw [h]
/-- a state that is brought into its plain form first -/
def goSt (Γ : Ctx) (ps : List Nat) (n : Nat) (k : List KI) (st : St) : Option (Ex × St) := resume Γ ps n k (.normal, st)
@[congr] theorem goSt_congr {Γ : Ctx} {ps : List Nat} {n : Nat} {k : List KI} {st st' : St} (h : st = st') : goSt Γ ps n k st = goSt Γ ps n k st' := by rw [h]
theorem goSt_done {Γ : Ctx} {ps : List Nat} {n : Nat} {k : List KI} {l : List (Nat × A)} {ob : Nat → Ob} : goSt Γ ps n k ⟨slotsOf l, ob⟩ = resume Γ ps n k (.normal, ⟨slotsOf l, ob⟩) := rfl

/-! drawn regions -/
def endT (Γ : Ctx) (ps : List Nat) (n : Nat) (watch live : List Nat) (k : List KI) : Ex × St × List Nat → Option (Ex × St)
  | (.normal, st', T) => if clash st' watch T then none else resume Γ ps n k (.normal, st'.only live)
  | (e, st', T) => if clash st' watch T then none else resume Γ ps n k (e, st'.forget ps)
def goT (Γ : Ctx) (ps : List Nat) (n : Nat) (watch live : List Nat) (l : List SOper) (T : List Nat) (k : List KI) (st : St) : Option (Ex × St) :=
  (runT Γ l st).bind fun x => endT Γ ps n watch live k (x.1, x.2.1, T ++ x.2.2)
def goOutT (Γ : Ctx) (ps : List Nat) (n : Nat) (watch live : List Nat) (d : Option Nat) (op : SOp) (x : Option Out) (l : List SOper) (T : List Nat) (k : List KI) (st : St) : Option (Ex × St) :=
  match x with
  | none => none
  | some (.val a us) => if op.quiet && !us.isEmpty then none else goT Γ ps n watch live l (T ++ touched op st.ob us) k (({ st with ob := updAll st.ob us } : St).put d a)
  | some (.pan x us) => endT Γ ps n watch live k (.panic x, { st with ob := updAll st.ob us }, T)
@[congr] theorem goOutT_congr {Γ : Ctx} {ps : List Nat} {n : Nat} {watch live : List Nat} {d : Option Nat} {op : SOp} {x x' : Option Out} {l : List SOper} {T : List Nat} {k : List KI} {st : St} (h : x = x') :
    goOutT Γ ps n watch live d op x l T k st = goOutT Γ ps n watch live d op x' l T k st := by rw [h]

/-! loops -/
def loopF (Γ : Ctx) (ps : List Nat) (n : Nat) (keep : List Nat) (b : Cd) (m : Nat) (st : St) : Option (Ex × St) :=
  iter (fun st => (canon ps keep st).bind (run Γ ps n b)) m st
def goLoop (Γ : Ctx) (ps : List Nat) (n : Nat) (x : Option (Ex × St)) (k : List KI) : Option (Ex × St) := x.bind (resume Γ ps n k)
@[congr] theorem goLoop_congr {Γ : Ctx} {ps : List Nat} {n : Nat} {k : List KI} {x x' : Option (Ex × St)} (h : x = x') : goLoop Γ ps n x k = goLoop Γ ps n x' k := by rw [h]
/-- a round, begun at its head -/
def goRound (Γ : Ctx) (ps : List Nat) (n : Nat) (keep : List Nat) (b : Cd) (m : Nat) (x : Option (Ex × St)) : Option (Ex × St) := x.bind fun
  | (.normal, st) => loopF Γ ps n keep b m st
  | e => some e
def goHead (Γ : Ctx) (ps : List Nat) (n : Nat) (keep : List Nat) (b : Cd) (m : Nat) (x : Option St) : Option (Ex × St) := match x with
  | none => none
  | some st => goRound Γ ps n keep b m (run Γ ps n b st)
@[congr] theorem goHead_congr {Γ : Ctx} {ps : List Nat} {n : Nat} {keep : List Nat} {b : Cd} {m : Nat} {x x' : Option St} (h : x = x') : goHead Γ ps n keep b m x = goHead Γ ps n keep b m x' := by rw [h]
@[congr] theorem goRound_congr {Γ : Ctx} {ps : List Nat} {n : Nat} {keep : List Nat} {b : Cd} {m : Nat} {x x' : Option (Ex × St)} (h : x = x') : goRound Γ ps n keep b m x = goRound Γ ps n keep b m x' := by rw [h]

section
variable {Γ : Ctx} {ps : List Nat} {n : Nat} {k : List KI} {st : St}

theorem run_go (c : Cd) : run Γ ps n c st = go Γ ps n c [] st := by
  unfold go
  cases run Γ ps n c st <;> simp [resume]

theorem go_skip : go Γ ps n .skip k st = resume Γ ps n k (.normal, st) := rfl
theorem go_ret : go Γ ps n .ret k st = resume Γ ps n k (.ret, st) := rfl
theorem go_exit (id : Nat) : go Γ ps n (.exit id) k st = resume Γ ps n k (.exit id, st) := rfl
theorem go_sq (a b : Cd) : go Γ ps n (sq a b) k st = go Γ ps n a (.c b :: k) st := by
  unfold go sq
  simp only [run]
  cases h : run Γ ps n a st with
  | none => rfl
  | some p => obtain ⟨e, s⟩ := p; cases e <;> simp [resume]
theorem go_block (id : Nat) (b : Cd) : go Γ ps n (.block id b) k st = go Γ ps n b (.b id :: k) st := by
  unfold go
  simp only [run]
  cases h : run Γ ps n b st with
  | none => rfl
  | some p =>
    obtain ⟨e, s⟩ := p
    cases e <;> simp [resume]
    split <;> simp_all [resume]
theorem go_cond (c : SA) (x y : Cd) : go Γ ps n (.cond c x y) k st = goIf (truth (st.get c)) (go Γ ps n x k st) (go Γ ps n y k st) := by
  unfold go
  simp only [run]
  cases hc : st.get c with
  | d z =>
    cases z with
    | bool b => cases b <;> simp [truth, goIf]
    | _ => rfl
  | _ => rfl
theorem go_r (live : List Nat) (l : List SOper) : go Γ ps n (r live l) k st = goOps Γ ps n l (.v live :: k) st := by
  unfold go goOps r
  simp only [run]
  cases h : runOps Γ l st with
  | none => rfl
  | some p => obtain ⟨e, s⟩ := p; cases e <;> simp [resume]
theorem go_rd (watch live : List Nat) (l : List SOper) : go Γ ps n (rd watch live l) k st = goT Γ ps n watch live l [] k st := by
  unfold go goT rd
  simp only [run]
  cases h : runT Γ l st with
  | none => rfl
  | some p =>
    obtain ⟨e, s, T⟩ := p
    cases e <;> simp only [Option.bind_some, List.nil_append, endT] <;> split <;> rfl
theorem go_loop (keep : List Nat) (b : Cd) : go Γ ps n (.loop keep b) k st = goLoop Γ ps n (loopF Γ ps n keep b n st) k := rfl
theorem goOps_nil : goOps Γ ps n [] k st = resume Γ ps n k (.normal, st) := rfl
theorem goOps_cons (x : SOper) (l : List SOper) (h : x.guard = none) :
    goOps Γ ps n (x :: l) k st = goOut Γ ps n x.dst (eval Γ st.ob (x.dst.getD 0) x.op (x.args.map st.get)) l k st := by
  unfold goOps goOut
  simp only [runOps, step, h]
  cases eval Γ st.ob (x.dst.getD 0) x.op (x.args.map st.get) with
  | none => rfl
  | some p =>
    cases p with
    | val a us => rfl
    | pan x us => rfl
theorem goOps_o (d : Nat) (op : SOp) (as : List SA) (l : List SOper) :
    goOps Γ ps n (o d op as :: l) k st = goOut Γ ps n (some d) (eval Γ st.ob d op (as.map st.get)) l k st := goOps_cons _ _ rfl
theorem goOps_e (op : SOp) (as : List SA) (l : List SOper) :
    goOps Γ ps n (e op as :: l) k st = goOut Γ ps n none (eval Γ st.ob 0 op (as.map st.get)) l k st := goOps_cons _ _ rfl
theorem goOut_val0 (d : Nat) (a : A) (l : List SOper) :
    goOut Γ ps n (some d) (some (.val a [])) l k st = goOps Γ ps n l k { slot := upd st.slot d a, ob := st.ob } := rfl
theorem goOut_val (d : Nat) (a : A) (u : Nat × Ob) (us : List (Nat × Ob)) (l : List SOper) :
    goOut Γ ps n (some d) (some (.val a (u :: us))) l k st = goOps Γ ps n l k { slot := upd st.slot d a, ob := updAll st.ob (u :: us) } := rfl
theorem goOut_none (a : A) (us : List (Nat × Ob)) (l : List SOper) :
    goOut Γ ps n none (some (.val a us)) l k st = goOps Γ ps n l k { slot := st.slot, ob := updAll st.ob us } := rfl
theorem goOut_pan (d : Option Nat) (x : D) (us : List (Nat × Ob)) (l : List SOper) :
    goOut Γ ps n d (some (.pan x us)) l k st = resume Γ ps n k (.panic x, { slot := st.slot, ob := updAll st.ob us }) := rfl

theorem goT_nil (watch live : List Nat) (T : List Nat) : goT Γ ps n watch live [] T k st = endT Γ ps n watch live k (.normal, st, T) := by
  simp only [goT, runT, Option.bind_some, List.append_nil]
theorem endT_normal0 (live : List Nat) (T : List Nat) : endT Γ ps n [] live k (.normal, st, T) = goSt Γ ps n k { slot := slotsOf (live.map fun n => (n, st.slot n)), ob := st.ob } := rfl
theorem endT_normal (watch live : List Nat) (T : List Nat) : endT Γ ps n watch live k (.normal, st, T) = if clash st watch T then none else goSt Γ ps n k { slot := slotsOf (live.map fun n => (n, st.slot n)), ob := st.ob } := rfl
theorem endT_panic0 (live : List Nat) (T : List Nat) (x : D) : endT Γ ps n [] live k (.panic x, st, T) = resume Γ ps n k (.panic x, st.forget ps) := rfl
theorem endT_panic (watch live : List Nat) (T : List Nat) (x : D) : endT Γ ps n watch live k (.panic x, st, T) = if clash st watch T then none else resume Γ ps n k (.panic x, st.forget ps) := rfl
theorem goT_o (watch live : List Nat) (T : List Nat) (d : Nat) (op : SOp) (as : List SA) (l : List SOper) :
    goT Γ ps n watch live (o d op as :: l) T k st = goOutT Γ ps n watch live (some d) op (eval Γ st.ob d op (as.map st.get)) l T k st := by
  unfold goT goOutT
  simp only [runT, exec, o, Option.getD_some]
  cases eval Γ st.ob d op (as.map st.get) with
  | none => rfl
  | some p =>
    cases p with
    | val a us =>
      simp only [Option.bind_some]
      by_cases hq : (op.quiet && !us.isEmpty) = true
      · simp only [hq, if_true]; rfl
      · simp only [hq]
        unfold goT
        simp only [Bool.false_eq_true, if_false, Option.bind_some]
        cases runT Γ l (({ st with ob := updAll st.ob us } : St).put (some d) a) with
        | none => rfl
        | some z => simp only [Option.map_some, Option.bind_some, List.append_assoc]
    | pan x us =>
      simp only [Option.bind_some, List.append_nil]
theorem clash_nil (watch : List Nat) : clash st watch [] = false := by
  unfold clash
  simp
theorem endT_normalT (watch live : List Nat) : endT Γ ps n watch live k (.normal, st, []) = goSt Γ ps n k { slot := slotsOf (live.map fun n => (n, st.slot n)), ob := st.ob } := by
  simp only [endT, clash_nil]; rfl
theorem endT_panicT (watch live : List Nat) (x : D) : endT Γ ps n watch live k (.panic x, st, []) = resume Γ ps n k (.panic x, st.forget ps) := by
  simp only [endT, clash_nil]; rfl
theorem goOutT_val0 (watch live : List Nat) (T : List Nat) (d : Nat) (op : SOp) (a : A) (l : List SOper) :
    goOutT Γ ps n watch live (some d) op (some (.val a [])) l T k st = goT Γ ps n watch live l T k { slot := upd st.slot d a, ob := st.ob } := by
  unfold goOutT
  simp [touched, updAll, St.put]
theorem goOutT_val (watch live : List Nat) (T : List Nat) (d : Nat) (op : SOp) (hq : op.quiet = false) (a : A) (us : List (Nat × Ob)) (l : List SOper) :
    goOutT Γ ps n watch live (some d) op (some (.val a us)) l T k st = goT Γ ps n watch live l (T ++ touched op st.ob us) k { slot := upd st.slot d a, ob := updAll st.ob us } := by
  unfold goOutT
  simp [hq, St.put]
theorem goOutT_pan (watch live : List Nat) (T : List Nat) (d : Option Nat) (op : SOp) (x : D) (us : List (Nat × Ob)) (l : List SOper) :
    goOutT Γ ps n watch live d op (some (.pan x us)) l T k st = endT Γ ps n watch live k (.panic x, { slot := st.slot, ob := updAll st.ob us }, T) := rfl

theorem resume_nil (p : Ex × St) : resume Γ ps n [] p = some p := rfl
theorem resume_c (x : Cd) : resume Γ ps n (.c x :: k) (.normal, st) = go Γ ps n x k st := rfl
theorem resume_c_ret (x : Cd) : resume Γ ps n (.c x :: k) (.ret, st) = resume Γ ps n k (.ret, st) := rfl
theorem resume_c_exit (x : Cd) (j : Nat) : resume Γ ps n (.c x :: k) (.exit j, st) = resume Γ ps n k (.exit j, st) := rfl
theorem resume_c_panic (x : Cd) (y : D) : resume Γ ps n (.c x :: k) (.panic y, st) = resume Γ ps n k (.panic y, st) := rfl
theorem resume_b (id : Nat) : resume Γ ps n (.b id :: k) (.normal, st) = resume Γ ps n k (.normal, st) := rfl
theorem resume_b_ret (id : Nat) : resume Γ ps n (.b id :: k) (.ret, st) = resume Γ ps n k (.ret, st) := rfl
theorem resume_b_exit (id j : Nat) : resume Γ ps n (.b id :: k) (.exit j, st) = if j = id then resume Γ ps n k (.normal, st) else resume Γ ps n k (.exit j, st) := rfl
theorem resume_b_panic (id : Nat) (y : D) : resume Γ ps n (.b id :: k) (.panic y, st) = resume Γ ps n k (.panic y, st) := rfl
theorem resume_v (live : List Nat) : resume Γ ps n (.v live :: k) (.normal, st) = goSt Γ ps n k { slot := slotsOf (live.map fun n => (n, st.slot n)), ob := st.ob } := rfl
theorem resume_v_panic (live : List Nat) (y : D) : resume Γ ps n (.v live :: k) (.panic y, st) = resume Γ ps n k (.panic y, st) := rfl
theorem goLoop_some (p : Ex × St) : goLoop Γ ps n (some p) k = resume Γ ps n k p := rfl

theorem loopF_succ (keep : List Nat) (b : Cd) (m : Nat) : loopF Γ ps n keep b (m + 1) st = goHead Γ ps n keep b m (canon ps keep st) := by
  unfold loopF goHead goRound
  simp only [iter]
  cases canon ps keep st with
  | none => rfl
  | some s =>
    simp only [Option.bind_some]
    cases run Γ ps n b s with
    | none => rfl
    | some p => obtain ⟨e, s'⟩ := p; cases e <;> rfl
theorem goHead_some (keep : List Nat) (b : Cd) (m : Nat) : goHead Γ ps n keep b m (some st) = goRound Γ ps n keep b m (go Γ ps n b [] st) := by
  rw [← run_go]; rfl
theorem goRound_normal (keep : List Nat) (b : Cd) (m : Nat) : goRound Γ ps n keep b m (some (.normal, st)) = loopF Γ ps n keep b m st := rfl
theorem goRound_exit (keep : List Nat) (b : Cd) (m j : Nat) : goRound Γ ps n keep b m (some (.exit j, st)) = some (.exit j, st) := rfl
theorem goRound_ret (keep : List Nat) (b : Cd) (m : Nat) : goRound Γ ps n keep b m (some (.ret, st)) = some (.ret, st) := rfl
theorem goRound_panic (keep : List Nat) (b : Cd) (m : Nat) (y : D) : goRound Γ ps n keep b m (some (.panic y, st)) = some (.panic y, st) := rfl

/-- a call, by the body's run -/
def finish (rs : List RV) (ps : List Nat) (x : Option (Ex × St)) : Option XOut := x.bind (leave ps rs)
@[congr] theorem finish_congr {rs : List RV} {ps : List Nat} {x x' : Option (Ex × St)} (h : x = x') : finish rs ps x = finish rs ps x' := by rw [h]
theorem callF_eq (m : Nat) (c : Cd) (rs : List RV) (xs : List X) (h : xs.length = m ∧ xs.all argOk = true ∧ distinct ((enter 0 xs).2.map (·.1)) = true) :
    callF Γ n m c rs xs = finish rs ((enter 0 xs).2.map (·.1)) (go Γ ((enter 0 xs).2.map (·.1)) n c [] { slot := slotsOf (enter 0 xs).1, ob := obsOf (enter 0 xs).2 }) := by
  rw [← run_go]
  unfold callF
  rw [if_pos h]; rfl
theorem finish_goIf (rs : List RV) (ps : List Nat) (c : Option Bool) (x y : Option (Ex × St)) : finish rs ps (goIf c x y) = goIf c (finish rs ps x) (finish rs ps y) := by
  unfold goIf; split <;> rfl
theorem goLoop_goIf (c : Option Bool) (x y : Option (Ex × St)) : goLoop Γ ps n (goIf c x y) k = goIf c (goLoop Γ ps n x k) (goLoop Γ ps n y k) := by
  unfold goIf; split <;> rfl
theorem goRound_goIf (keep : List Nat) (b : Cd) (m : Nat) (c : Option Bool) (x y : Option (Ex × St)) : goRound Γ ps n keep b m (goIf c x y) = goIf c (goRound Γ ps n keep b m x) (goRound Γ ps n keep b m y) := by
  unfold goIf; split <;> rfl
theorem finish_some (rs : List RV) (ps : List Nat) (p : Ex × St) : finish rs ps (some p) = leave ps rs p := rfl
end

section
variable {Γ : Ctx} {ob : Nat → Ob} {d : Nat}
theorem get_t (s : Nat → A) (ob : Nat → Ob) (n : Nat) : St.get ⟨s, ob⟩ (t n) = s n := rfl
theorem get_i (st : St) (n : Int) : st.get (i n) = .d (.int .i64 n) := rfl
theorem get_b (st : St) (v : Bool) : st.get (b v) = .d (.bool v) := rfl
theorem get_s (st : St) (l : List UInt8) : st.get (s l) = .d (sD l) := rfl
theorem get_n (st : St) : st.get n = .nil := rfl
theorem get_k (st : St) (a : A) : st.get (.k a) = a := rfl
theorem upd_app {α : Type} (f : Nat → α) (n m : Nat) (v : α) : upd f n v m = if m = n then v else f m := rfl
theorem slotsOf_cons (i : Nat) (a : A) (r : List (Nat × A)) (n : Nat) : slotsOf ((i, a) :: r) n = if n = i then a else slotsOf r n := rfl
theorem obsOf_cons (i : Nat) (o : Ob) (r : List (Nat × Ob)) (n : Nat) : obsOf ((i, o) :: r) n = if n = i then o else obsOf r n := rfl
theorem obsOf_nil (n : Nat) : obsOf [] n = {} := rfl
theorem updAll_nil (f : Nat → Ob) : updAll f [] = f := rfl
theorem updAll_cons (f : Nat → Ob) (i : Nat) (o : Ob) (r : List (Nat × Ob)) : updAll f ((i, o) :: r) = updAll (upd f i o) r := rfl

theorem ev_mv (a : A) : eval Γ ob d .mv [a] = some (.val a []) := rfl
theorem ev_pick (c : Bool) (x y : A) : eval Γ ob d .pick [.d (.bool c), x, y] = some (.val (if c then x else y) []) := rfl
theorem ev_len_lst (n : Nat) (cs : List D) : eval Γ ob d (.len false) [.d (.lst n cs)] = some (.val (.d (.int .i64 n)) []) := rfl
theorem ev_len_str (s : ByteArray) : eval Γ ob d (.len true) [.d (.str s)] = some (.val (.d (.int .i64 s.size)) []) := rfl
theorem ev_len_nil : eval Γ ob d (.len false) [.nil] = some (.val (.d (.int .i64 0)) []) := rfl
theorem ev_add (k : IntKind) (a b : Int) : eval Γ ob d (.bin .add) [.d (.int k a), .d (.int k b)] = some (.val (.d (.int k (k.wrap (a + b)))) []) := by simp [eval, evBin, intBin, ok]
theorem ev_sub (k : IntKind) (a b : Int) : eval Γ ob d (.bin .sub) [.d (.int k a), .d (.int k b)] = some (.val (.d (.int k (k.wrap (a - b)))) []) := by simp [eval, evBin, intBin, ok]
theorem ev_mul (k : IntKind) (a b : Int) : eval Γ ob d (.bin .mul) [.d (.int k a), .d (.int k b)] = some (.val (.d (.int k (k.wrap (a * b)))) []) := by simp [eval, evBin, intBin, ok]
theorem ev_quo (k : IntKind) (a b : Int) (h : b ≠ 0) : eval Γ ob d (.bin .quo) [.d (.int k a), .d (.int k b)] = some (.val (.d (.int k (k.wrap (a.tdiv b)))) []) := by simp [eval, evBin, intBin, ok, h]
theorem ev_rem (k : IntKind) (a b : Int) (h : b ≠ 0) : eval Γ ob d (.bin .rem) [.d (.int k a), .d (.int k b)] = some (.val (.d (.int k (a.tmod b))) []) := by simp [eval, evBin, intBin, ok, h]
theorem ev_eql (k : IntKind) (a b : Int) : eval Γ ob d (.bin .eql) [.d (.int k a), .d (.int k b)] = some (.val (.d (.bool (decide (a = b)))) []) := by simp [eval, evBin, intBin, ok, intCmp]; rfl
theorem ev_neq (k : IntKind) (a b : Int) : eval Γ ob d (.bin .neq) [.d (.int k a), .d (.int k b)] = some (.val (.d (.bool (!decide (a = b)))) []) := by simp [eval, evBin, intBin, ok, intCmp]; rfl
theorem ev_lss (k : IntKind) (a b : Int) : eval Γ ob d (.bin .lss) [.d (.int k a), .d (.int k b)] = some (.val (.d (.bool (decide (a < b)))) []) := by simp [eval, evBin, intBin, ok, intCmp]
theorem ev_leq (k : IntKind) (a b : Int) : eval Γ ob d (.bin .leq) [.d (.int k a), .d (.int k b)] = some (.val (.d (.bool (decide (a ≤ b)))) []) := by simp [eval, evBin, intBin, ok, intCmp]
theorem ev_gtr (k : IntKind) (a b : Int) : eval Γ ob d (.bin .gtr) [.d (.int k a), .d (.int k b)] = some (.val (.d (.bool (decide (b < a)))) []) := by simp [eval, evBin, intBin, ok, intCmp]
theorem ev_geq (k : IntKind) (a b : Int) : eval Γ ob d (.bin .geq) [.d (.int k a), .d (.int k b)] = some (.val (.d (.bool (decide (b ≤ a)))) []) := by simp [eval, evBin, intBin, ok, intCmp]
theorem ev_beq (neg : Bool) (a b : Bool) : eval Γ ob d (.beq neg) [.d (.bool a), .d (.bool b)] = some (.val (.d (.bool (if neg then !(a == b) else a == b))) []) := rfl
theorem ev_not (b : Bool) : eval Γ ob d .not [.d (.bool b)] = some (.val (.d (.bool !b)) []) := rfl
theorem ev_neg (k : IntKind) (a : Int) : eval Γ ob d .neg [.d (.int k a)] = some (.val (.d (.int k (k.wrap (0 - a)))) []) := rfl
theorem ev_ia_lst (sz n : Nat) (cs : List D) (k : IntKind) (i : Int) (h0 : 0 ≤ i) (h1 : i < n) (h2 : i.toNat * sz ≤ cs.length) :
    eval Γ ob d (.ia sz) [.d (.lst n cs), .d (.int k i)] = some (.val (.cp (cs.drop (i.toNat * sz))) []) := by simp [eval, evIa, ok, h0, h1, h2]
theorem ev_ld_cp (x : D) (r : List D) : eval Γ ob d (.ld none) [.cp (x :: r)] = some (.val (.d x) []) := rfl
theorem ev_box (a : A) : eval Γ ob d .box [a] = if (cellsOf a).all one then mk ob d [] (.box (cellsOf a)) else none := rfl
theorem ev_alloc (cells : List A) : eval Γ ob d (.alloc cells) [] = if cells.all one then mk ob d [] (.box cells) else none := rfl
theorem mk_box (us : List (Nat × Ob)) (cells : List A) : mk ob d us (.box cells) = some (.val (.adr (oid d 0) ((ob (oid d 0)).ver + 1) 0) (us ++ [(oid d 0, ⟨(ob (oid d 0)).ver + 1, .box cells, false⟩)])) := rfl
theorem ev_ld_adr (id ver off : Nat) : eval Γ ob d (.ld none) [.adr id ver off] = (boxAt ob id ver).bind fun cells => (cells[off]?).bind ok := rfl
theorem ev_ldN_adr (n id ver off : Nat) : eval Γ ob d (.ld (some n)) [.adr id ver off] = (boxAt ob id ver).bind fun cells => if off + n ≤ cells.length then ok (.agg ((cells.drop off).take n)) else none := rfl
theorem ev_fa_adr (off id ver o : Nat) : eval Γ ob d (.fa off) [.adr id ver o] = (boxAt ob id ver).bind fun _ => ok (.adr id ver (o + off)) := rfl
theorem ev_st_adr (n id ver off : Nat) (a : A) : eval Γ ob d (.st n) [.adr id ver off, a] = (boxAt ob id ver).bind fun cells =>
      if off + n ≤ cells.length ∧ (cellsOf a).length = n ∧ (cellsOf a).all one then
        some (.val .undef [(id, { ob id with o := .box (cells.take off ++ cellsOf a ++ cells.drop (off + n)) })])
      else none := rfl
theorem boxAt_of {id ver : Nat} {cells : List A} {lk : Bool} (h : ob id = ⟨ver, .box cells, lk⟩) : boxAt ob id ver = some cells := by
  unfold boxAt; rw [h]; simp
theorem ev_call (f : FuncId) (as : List A) : eval Γ ob d (.call f) as = doCall Γ ob d f as := rfl
theorem ok_eq (a : A) : ok a = some (.val a []) := rfl
theorem rowAt_of {id ver e sz n : Nat} {c : Option Nat} {cells : List D} {lk : Bool} (h : ob id = ⟨ver, .row e sz n c cells, lk⟩) : rowAt ob id ver = some (e, sz, n, c, cells) := by
  unfold rowAt; rw [h]; simp
theorem ev_ia_row {id ver e sz n : Nat} {c : Option Nat} {cells : List D} {lk : Bool} (h : ob id = ⟨ver, .row e sz n c cells, lk⟩) (size : Nat) (k : IntKind) (i : Int) (h0 : 0 ≤ i) (h1 : i < n) :
    eval Γ ob d (.ia size) [.row id ver, .d (.int k i)] = some (.val (.rad id ver (i.toNat * size)) []) := by
  simp only [eval, evIa, rowAt_of h, Option.bind_some, h0, h1, and_self, if_true, ok]
theorem ev_ld_rad {id ver e sz n : Nat} {c : Option Nat} {cells : List D} {lk : Bool} (h : ob id = ⟨ver, .row e sz n c cells, lk⟩) {off : Nat} {x : D} (hx : cells[off]? = some x) :
    eval Γ ob d (.ld none) [.rad id ver off] = some (.val (.d x) []) := by
  simp only [eval, evLd1, rowAt_of h, Option.bind_some, hx, ok]
theorem ev_st_rad {id ver e sz n : Nat} {c : Option Nat} {cells : List D} (h : ob id = ⟨ver, .row e sz n c cells, false⟩) {off : Nat} (x : D) (hlen : off + 1 ≤ cells.length) :
    eval Γ ob d (.st 1) [.rad id ver off, .d x] = some (.val .undef [(id, ⟨ver, .row e sz n c (cells.take off ++ [x] ++ cells.drop (off + 1)), false⟩)]) := by
  simp only [eval, evSt, rowAt_of h, Option.bind_some, cellsOf, snaps, snap, Option.map_some, List.append_nil, h, hlen, List.length_cons, List.length_nil, and_self, if_true]
theorem ev_len_row {id ver e sz n : Nat} {c : Option Nat} {cells : List D} {lk : Bool} (h : ob id = ⟨ver, .row e sz n c cells, lk⟩) : eval Γ ob d (.len false) [.row id ver] = some (.val (.d (.int .i64 n)) []) := by
  simp [eval, evLen, rowAt_of h, ok]
theorem ev_mkS (e size bytes : Nat) (zero : List D) (k k' : IntKind) (l c : Int) (h : 0 ≤ l ∧ l ≤ c ∧ (bytes : Int) * c ≤ roomB ∧ c ≤ 9223372036854775807 ∧ zero.length = size ∧ 0 < size) :
    eval Γ ob d (.mkS e size bytes zero) [.d (.int k l), .d (.int k' c)] = mk ob d [] (.row e size l.toNat (some c.toNat) (List.replicate l.toNat zero).flatten) := by
  simp only [eval]; rw [if_pos h]
theorem mk_row (us : List (Nat × Ob)) (e sz n : Nat) (c : Option Nat) (cells : List D) : mk ob d us (.row e sz n c cells) =
    some (.val (.row (oid d 0) ((ob (oid d 0)).ver + 1)) (us ++ [(oid d 0, ⟨(ob (oid d 0)).ver + 1, .row e sz n c cells, false⟩)])) := rfl
theorem cellsOf_d (x : D) : cellsOf (.d x) = [.d x] := rfl
theorem cellsOf_agg (cs : List A) : cellsOf (.agg cs) = cs := rfl
theorem one_d (x : D) : one (.d x) = true := rfl
theorem one_nil : one .nil = true := rfl
theorem one_row (i v : Nat) : one (.row i v) = true := rfl
theorem one_adr (i v o : Nat) : one (.adr i v o) = true := rfl
theorem map_nil {α β : Type} (f : α → β) : List.map f [] = [] := rfl
theorem map_cons {α β : Type} (f : α → β) (a : α) (l : List α) : List.map f (a :: l) = f a :: List.map f l := rfl
theorem all_nil {α : Type} (f : α → Bool) : List.all [] f = true := rfl
theorem all_cons {α : Type} (f : α → Bool) (a : α) (l : List α) : List.all (a :: l) f = (f a && List.all l f) := rfl
theorem length_nil {α : Type} : ([] : List α).length = 0 := rfl
theorem length_cons {α : Type} (a : α) (l : List α) : (a :: l).length = l.length + 1 := rfl
theorem take_zero {α : Type} (l : List α) : l.take 0 = [] := rfl
theorem take_one {α : Type} (a : α) (l : List α) (n : Nat) : (a :: l).take (n + 1) = a :: l.take n := rfl
end

/-- a test that is left open -/
theorem goIf_dec {α : Type} {p : Prop} [h : Decidable p] {x y r : Option α} (h1 : p → x = r) (h2 : ¬ p → y = r) : goIf (some (decide p)) x y = r := by
  by_cases hp : p
  · simp only [hp, decide_true, goIf_true]; exact h1 hp
  · simp only [hp, decide_false, goIf_false]; exact h2 hp
theorem goIf_bool {α : Type} {c : Bool} {x y r : Option α} (h1 : c = true → x = r) (h2 : c = false → y = r) : goIf (some c) x y = r := by
  cases c
  · exact h2 rfl
  · exact h1 rfl

end Go.Vm
