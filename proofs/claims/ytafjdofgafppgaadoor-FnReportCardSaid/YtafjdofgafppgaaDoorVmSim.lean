/- The rules by which a call is rewritten into a plain Lean function, bundled. -/
import Derived.Test.YtafjdofgafppgaaDoorVmObj
set_option linter.unusedSectionVars false
set_option linter.unusedSimpArgs false
set_option linter.unusedVariables false
namespace Go.Vm

/-! states in their plain form -/
def gS (E : En) (k : List KJ) (st : St) : Option XOut := back E k (.normal, st)
def gE (E : En) (k : List KJ) (e : Ex) (st : St) : Option XOut := back E k (e, st)
@[congr] theorem gS_congr {E : En} {k : List KJ} {st st' : St} (h : st = st') : gS E k st = gS E k st' := by rw [h]
@[congr] theorem gIf_congr {α : Type} {c c' : Option Bool} {x y : Option α} (h : c = c') : gIf c x y = gIf c' x y := by rw [h]
@[congr] theorem gOut_congr {E : En} {d : Option Nat} {x x' : Option Out} {l : List SOper} {k : List KJ} {st : St} (h : x = x') : gOut E d x l k st = gOut E d x' l k st := by rw [h]
@[congr] theorem gOutT_congr {E : En} {v : List Nat} {d : Option Nat} {op : SOp} {x x' : Option Out} {l : List SOper} {k : List KJ} {st : St} (h : x = x') :
    gOutT E v d op x l k st = gOutT E v d op x' l k st := by rw [h]
@[congr] theorem gC_congr {E : En} {keep : List Nat} {b : Cd} {m : Nat} {k : List KJ} {x x' : Option St} (h : x = x') : gC E keep b m k x = gC E keep b m k x' := by rw [h]
/-- one of two, by numbers that are known -/
def sel {α : Type} (c : Bool) (x y : α) : α := match c with
  | true => x
  | false => y
@[congr] theorem sel_congr {α : Type} {c c' : Bool} {x y : α} (h : c = c') : sel c x y = sel c' x y := by rw [h]
theorem sel_t {α : Type} (x y : α) : sel true x y = x := rfl
theorem sel_f {α : Type} (x y : α) : sel false x y = y := rfl
theorem upd_sel {α : Type} (f : Nat → α) (n m : Nat) (v : α) : upd f n v m = sel (m == n) v (f m) := by
  unfold upd sel
  by_cases h : m = n
  · subst h; simp
  · rw [if_neg h]
    have : (m == n) = false := by simpa using h
    rw [this]
theorem slots_sel (i : Nat) (a : A) (r : List (Nat × A)) (n : Nat) : slotsOf ((i, a) :: r) n = sel (n == i) a (slotsOf r n) := upd_sel (slotsOf r) i n a
theorem obs_sel (i : Nat) (o : Ob) (r : List (Nat × Ob)) (n : Nat) : obsOf ((i, o) :: r) n = sel (n == i) o (obsOf r n) := upd_sel (obsOf r) i n o
@[congr] theorem eval_congr {Γ : Ctx} {ob : Nat → Ob} {d : Nat} {op : SOp} {as as' : List A} (h : as = as') : eval Γ ob d op as = eval Γ ob d op as' := by rw [h]
section
variable {E : En} {k : List KJ} {st : St} {s : Nat → A} {ob : Nat → Ob}
theorem gS_done (l : List (Nat × A)) (ob : Nat → Ob) : gS E k ⟨slotsOf l, ob⟩ = back E k (.normal, ⟨slotsOf l, ob⟩) := rfl
theorem gs_v (live : List Nat) : back E (.v live :: k) (.normal, st) = gS E k ⟨slotsOf (live.map fun n => (n, st.slot n)), st.ob⟩ := rfl
theorem gs_end (live : List Nat) : endG E live k (.normal, st) = back E (.v live :: k) (.normal, st) := rfl
theorem gs_endp (live : List Nat) (x : D) : endG E live k (.panic x, st) = back E k (.panic x, st.forget E.ps) := rfl
theorem gs_loop (keep : List Nat) (b : Cd) (m : Nat) : gL E keep b m k st = gC E keep b m k (canon E.ps keep st) := gL_eq keep b m
theorem gIf_b {α : Type} (b : Bool) (x y : Option α) : gIf (some b) x y = if b = true then x else y := by cases b <;> rfl
theorem gIf_t {α : Type} (x y : Option α) : gIf (some true) x y = x := rfl
theorem gIf_f {α : Type} (x y : Option α) : gIf (some false) x y = y := rfl
theorem bind_ite {α β : Type} (p : Prop) [Decidable p] (x y : Option α) (f : α → Option β) : (if p then x else y).bind f = if p then x.bind f else y.bind f := by split <;> rfl
theorem eq_t (b : Bool) : (b = true) = (b = true) := rfl

/-! calls -/
def dR (fl : TypeId → Bool) (ob : Nat → Ob) (d : Nat) (ls ms : List Nat) (x : Option XOut) : Option Out := x.bind fun
    | .ret x outs => (backs ob ms outs).map fun bs => .val (parA (updAll ob bs) ms x (ofX (updAll ob bs) d x 0).1) ((if plainX fl x && outs.all flatOut then [] else leaks ob ls) ++ (bs ++ (ofX (updAll ob bs) d x 0).2.1))
    | .pan x outs => (backs ob ms outs).map fun bs => .pan x (leaks ob ls ++ bs)
/-- what is shared by a call -/
def lkIf (c : Bool) (ob : Nat → Ob) (ls : List Nat) : List (Nat × Ob) := if c = true then [] else leaks ob ls
@[congr] theorem lkIf_congr {c c' : Bool} {ob : Nat → Ob} {ls : List Nat} (h : c = c') : lkIf c ob ls = lkIf c' ob ls := by rw [h]
theorem lkIf_t (ob : Nat → Ob) (ls : List Nat) : lkIf true ob ls = [] := rfl
theorem lkIf_0 (c : Bool) (ob : Nat → Ob) : lkIf c ob [] = [] := by cases c <;> rfl
theorem lkIf_f (ob : Nat → Ob) (ls : List Nat) : lkIf false ob ls = leaks ob ls := rfl
theorem plain_d (fl : TypeId → Bool) (x : D) : plainX fl (.d x) = x.flat := by simp only [plainX]
theorem plain_nil (fl : TypeId → Bool) : plainX fl .nil = true := by simp only [plainX]
theorem plain_agg (fl : TypeId → Bool) (xs : List X) : plainX fl (.agg xs) = plainXs fl xs := by simp only [plainX]
theorem plain_tup (fl : TypeId → Bool) (xs : List X) : plainX fl (.tup xs) = plainXs fl xs := by simp only [plainX]
theorem plain_box (fl : TypeId → Bool) (xs : List X) : plainX fl (.box xs) = plainXs fl xs := by simp only [plainX]
theorem plains_nil (fl : TypeId → Bool) : plainXs fl [] = true := by simp only [plainXs]
theorem plains_cons (fl : TypeId → Bool) (x : X) (xs : List X) : plainXs fl (x :: xs) = (plainX fl x && plainXs fl xs) := by simp only [plainXs]
theorem flat_int (k : IntKind) (n : Int) : (D.int k n).flat = true := rfl
theorem flat_bool (b : Bool) : (D.bool b).flat = true := rfl
theorem flat_str (l : List UInt8) : (sD l).flat = true := rfl
theorem flat_fn (f : FuncId) : (D.fn f).flat = true := rfl
theorem flat_nilp : D.nilp.flat = true := rfl
theorem flat_nilf : D.nilf.flat = true := rfl
theorem flat_nili : D.nili.flat = true := rfl
theorem flat_iface (t : TypeId) (x : D) : (D.iface t x).flat = false := rfl
theorem flat_ifaceS (t : TypeId) (x : List D) : (D.ifaceS t x).flat = false := rfl
theorem flat_lst0 : (D.lst 0 []).flat = false := rfl
theorem flat_T {α : Type} (c : Enc α) (l : List α) : (lstT c l).flat = false := rfl
theorem flatOut_eq (ds : List D) : flatOut ds = ds.all D.flat := rfl
def dC (Γ : Ctx) (ob : Nat → Ob) (d : Nat) (f : FuncId) (x : Option (List X × List Nat × List Nat)) : Option Out := x.bind fun p =>
  if distinct p.2.2 && !(p.2.2.any fun m => p.2.1.any (· == m)) then dR Γ.fl ob d p.2.1 p.2.2 (Γ f p.1) else none
@[congr] theorem dR_congr {fl : TypeId → Bool} {ob : Nat → Ob} {d : Nat} {ls ms : List Nat} {x x' : Option XOut} (h : x = x') : dR fl ob d ls ms x = dR fl ob d ls ms x' := by rw [h]
@[congr] theorem dC_congr {Γ : Ctx} {ob : Nat → Ob} {d : Nat} {f : FuncId} {x x' : Option (List X × List Nat × List Nat)} (h : x = x') : dC Γ ob d f x = dC Γ ob d f x' := by rw [h]
theorem es_dyn_nilf (Γ : Ctx) (ob : Nat → Ob) (d : Nat) (as : List A) : eval Γ ob d .dyn (.d .nilf :: as) = none := rfl
theorem ev_callC (Γ : Ctx) (ob : Nat → Ob) (d : Nat) (f : FuncId) (as : List A) : eval Γ ob d (.call f) as = dC Γ ob d f (toXs (Γ.mu f) ob as) := rfl
theorem ev_dynC (Γ : Ctx) (ob : Nat → Ob) (d : Nat) (f : FuncId) (as : List A) : eval Γ ob d .dyn (.d (.fn f) :: as) = dC Γ ob d f (toXs (Γ.mu f) ob as) := rfl
theorem dC_some (Γ : Ctx) (ob : Nat → Ob) (d : Nat) (f : FuncId) (xs : List X) (ls ms : List Nat) : dC Γ ob d f (some (xs, ls, ms)) =
    if (distinct ms && !(ms.any fun m => ls.any (· == m))) = true then dR Γ.fl ob d ls ms (Γ f xs) else none := rfl
theorem dR_bind {α : Type} (fl : TypeId → Bool) (ob : Nat → Ob) (d : Nat) (ls ms : List Nat) (x : Option α) (f : α → Option XOut) : dR fl ob d ls ms (x.bind f) = x.bind fun y => dR fl ob d ls ms (f y) := by
  unfold dR; rw [Option.bind_assoc]
theorem dR_ret (fl : TypeId → Bool) (ob : Nat → Ob) (d : Nat) (ls ms : List Nat) (x : X) (outs : List (List D)) : dR fl ob d ls ms (some (.ret x outs)) =
    (backs ob ms outs).bind fun bs => some (.val (parA (updAll ob bs) ms x (ofX (updAll ob bs) d x 0).1) (lkIf (plainX fl x && outs.all flatOut) ob ls ++ (bs ++ (ofX (updAll ob bs) d x 0).2.1))) := by
  simp only [dR, Option.bind_some]; cases backs ob ms outs <;> rfl
theorem dR_pan (fl : TypeId → Bool) (ob : Nat → Ob) (d : Nat) (ls ms : List Nat) (x : D) (outs : List (List D)) : dR fl ob d ls ms (some (.pan x outs)) =
    (backs ob ms outs).bind fun bs => some (.pan x (leaks ob ls ++ bs)) := by
  simp only [dR, Option.bind_some]; cases backs ob ms outs <;> rfl
theorem dR_none (fl : TypeId → Bool) (ob : Nat → Ob) (d : Nat) (ls ms : List Nat) : dR fl ob d ls ms none = none := rfl
theorem backs_nil (ob : Nat → Ob) : backs ob [] [] = some [] := rfl
theorem backs_cons (ob : Nat → Ob) (id : Nat) (r : List Nat) (ds : List D) (xs : List (List D)) : backs ob (id :: r) (ds :: xs) =
    (backO (ob id) ds).bind fun x => (backs ob r xs).bind fun y => some ((id, x) :: y) := by
  simp only [backs]
  cases backO (ob id) ds with
  | none => rfl
  | some x => cases backs ob r xs <;> rfl
theorem backO_box (v : Nat) (cells : List A) (lk : Bool) (ds : List D) : backO ⟨v, .box cells, lk⟩ ds = some ⟨v, .box (ds.map dA), false⟩ := rfl
theorem leaks_nil (ob : Nat → Ob) : leaks ob [] = [] := rfl
theorem leaks_cons (ob : Nat → Ob) (i : Nat) (r : List Nat) : leaks ob (i :: r) = (i, ⟨(ob i).ver, (ob i).o, true⟩) :: leaks ob r := rfl
theorem toX_d (m : Bool) (x : D) : toX m ob (.d x) = some (.d x, [], []) := rfl
theorem toX_nilF : toX false ob .nil = some (.d (.lst 0 []), [], []) := rfl
theorem toX_nilT : toX true ob .nil = some (.nil, [], []) := rfl
theorem toX_agg (m : Bool) (cs : List A) : toX m ob (.agg cs) = (toXs m ob cs).bind fun p => some (.agg p.1, p.2.1, p.2.2) := by
  simp only [toX]; cases toXs m ob cs <;> rfl
theorem toXs_nil (m : Bool) : toXs m ob [] = some ([], [], []) := rfl
theorem toXs_cons (m : Bool) (a : A) (r : List A) : toXs m ob (a :: r) = (toX m ob a).bind fun p => (toXs m ob r).bind fun q => some (p.1 :: q.1, p.2.1 ++ q.2.1, p.2.2 ++ q.2.2) := by
  simp only [toXs]
  cases toX m ob a with
  | none => rfl
  | some p => obtain ⟨x, l, k⟩ := p; cases toXs m ob r <;> rfl
theorem boxCells_nil : boxCells [] = some [] := rfl
theorem boxCells_d (x : D) (r : List A) : boxCells (.d x :: r) = (boxCells r).bind fun y => some (x :: y) := by
  simp only [boxCells]; cases boxCells r <;> rfl
theorem snap_d (x : D) : snap ob (.d x) = some (x, []) := rfl
theorem snap_nil : snap ob .nil = some (.lst 0 [], []) := rfl
theorem snaps_nil : snaps ob [] = some ([], []) := rfl
theorem snaps_cons (a : A) (r : List A) : snaps ob (a :: r) = (snap ob a).bind fun p => (snaps ob r).bind fun q => some (p.1 :: q.1, p.2 ++ q.2) := by
  simp only [snaps]
  cases snap ob a with
  | none => rfl
  | some p => obtain ⟨x, l⟩ := p; cases snaps ob r <;> rfl
theorem ofX_d (d : Nat) (x : D) (j : Nat) : ofX ob d (.d x) j = (.d x, [], j) := rfl
theorem ofX_nil (d : Nat) (j : Nat) : ofX ob d .nil j = (.nil, [], j) := rfl
theorem ofX_par (d : Nat) (k j : Nat) : ofX ob d (.par k) j = (.undef, [], j) := rfl
theorem plain_par (fl : TypeId → Bool) (k : Nat) : plainX fl (.par k) = true := by simp only [plainX]
theorem parA_d (ms : List Nat) (x : D) (a : A) : parA ob ms (.d x) a = a := by cases a <;> rfl
theorem parA_nil (ms : List Nat) (a : A) : parA ob ms .nil a = a := by cases a <;> rfl
theorem parA_own (ms : List Nat) (e s n : Nat) (c : Option Nat) (cells : List D) (lk : Bool) (a : A) : parA ob ms (.own e s n c cells lk) a = a := by cases a <;> rfl
theorem parA_box (ms : List Nat) (xs : List X) (a : A) : parA ob ms (.box xs) a = a := by cases a <;> rfl
theorem parA_agg (ms : List Nat) (xs : List X) (as : List A) : parA ob ms (.agg xs) (.agg as) = .agg (parAs ob ms xs as) := rfl
theorem parA_tup (ms : List Nat) (xs : List X) (as : List A) : parA ob ms (.tup xs) (.tup as) = .tup (parAs ob ms xs as) := rfl
def parI (ob : Nat → Ob) (o : Option Nat) : A := match o with
  | some id => .row id (ob id).ver
  | none => .undef
@[congr] theorem parI_congr {ob : Nat → Ob} {o o' : Option Nat} (h : o = o') : parI ob o = parI ob o' := by rw [h]
theorem parI_some (id : Nat) : parI ob (some id) = .row id (ob id).ver := rfl
theorem parA_par (ms : List Nat) (k : Nat) (a : A) : parA ob ms (.par k) a = parI ob (ms[k]?) := by cases a <;> rfl
theorem parAs_nil (ms : List Nat) (as : List A) : parAs ob ms [] as = as := by cases as <;> rfl
theorem parAs_cons (ms : List Nat) (x : X) (xs : List X) (a : A) (as : List A) : parAs ob ms (x :: xs) (a :: as) = parA ob ms x a :: parAs ob ms xs as := rfl
theorem ofX_agg (d : Nat) (xs : List X) (j : Nat) : ofX ob d (.agg xs) j = (.agg (ofXs ob d xs j).1, (ofXs ob d xs j).2.1, (ofXs ob d xs j).2.2) := rfl
theorem ofX_tup (d : Nat) (xs : List X) (j : Nat) : ofX ob d (.tup xs) j = (.tup (ofXs ob d xs j).1, (ofXs ob d xs j).2.1, (ofXs ob d xs j).2.2) := rfl
theorem ofX_box (d : Nat) (xs : List X) (j : Nat) : ofX ob d (.box xs) j = (.adr (oid d j) ((ob (oid d j)).ver + 1) 0, (ofXs ob d xs (j + 1)).2.1 ++ [(oid d j, ⟨(ob (oid d j)).ver + 1, .box (ofXs ob d xs (j + 1)).1, false⟩)], (ofXs ob d xs (j + 1)).2.2) := rfl
theorem ofXs_nil (d : Nat) (j : Nat) : ofXs ob d [] j = ([], [], j) := rfl
theorem ofXs_cons (d : Nat) (x : X) (r : List X) (j : Nat) : ofXs ob d (x :: r) j = ((ofX ob d x j).1 :: (ofXs ob d r (ofX ob d x j).2.2).1, (ofX ob d x j).2.1 ++ (ofXs ob d r (ofX ob d x j).2.2).2.1, (ofXs ob d r (ofX ob d x j).2.2).2.2) := rfl

/-! the end -/
theorem fin_bind {α : Type} (x : Option α) (f : α → Option XOut) : fin E (x.bind f) = x.bind fun y => fin E (f y) := by unfold fin; rw [Option.bind_assoc]
theorem fin_some (y : XOut) : fin E (some y) = E.wk y := rfl
theorem fin_none : fin E none = none := rfl
theorem fin_ite (p : Prop) [Decidable p] (x y : Option XOut) : fin E (if p then x else y) = if p then fin E x else fin E y := by split <;> rfl
theorem flatX_d (x : D) : flatX (.d x) = true := rfl
theorem flatX_nil : flatX .nil = true := rfl
theorem flatX_own (e s n : Nat) (c : Option Nat) (cells : List D) (lk : Bool) : flatX (.own e s n c cells lk) = true := rfl
theorem flatX_res (k : RK) (x : D) : flatX (.res k x) = true := rfl
theorem leave_ret (ps : List Nat) (rs : List RV) : leave ps rs (.ret, st) = (Vm.results ps st rs).bind fun x => (outParams st.ob ps).bind fun y =>
      if (distinct x.2 && !(x.2.any fun m => y.2.any (· == m) || ps.any (· == m))) = true then some (.ret x.1 y.1) else none := rfl
theorem leave_norm (ps : List Nat) (rs : List RV) : leave ps rs (.normal, st) = (Vm.results ps st rs).bind fun x => (outParams st.ob ps).bind fun y =>
      if (distinct x.2 && !(x.2.any fun m => y.2.any (· == m) || ps.any (· == m))) = true then some (.ret x.1 y.1) else none := rfl
theorem leave_pan (ps : List Nat) (rs : List RV) (x : D) : leave ps rs (.panic x, st) = (outParams st.ob ps).bind fun y => some (.pan x y.1) := by
  simp only [leave]; cases outParams st.ob ps <;> rfl
theorem results_eq' (ps : List Nat) (rs : List RV) : Vm.results ps st rs = (getAll st rs).bind (outAll ps st.ob) := rfl
theorem getAll_nil : getAll st [] = some [] := rfl
theorem getAll_cons (r : RV) (rs : List RV) : getAll st (r :: rs) = (r.get st).bind fun a => (getAll st rs).bind fun y => some (a :: y) := by
  simp only [getAll]
  cases r.get st with
  | none => rfl
  | some a => cases getAll st rs <;> rfl
theorem rv_tmp (t : Nat) : RV.get ⟨s, ob⟩ (.tmp t) = some (s t) := rfl
def rvBox (ob : Nat → Ob) (n : Option Nat) (a : A) : Option A := match a with
  | .adr id ver 0 => (oBox (ob id) ver).bind fun cells => match n with
      | none => cells[0]?
      | some n => if n ≤ cells.length then some (.agg (cells.take n)) else none
  | _ => none
theorem rv_cell (t : Nat) (n : Option Nat) : RV.get ⟨s, ob⟩ (.cell t n) = rvBox ob n (s t) := rfl
theorem rvBox_1 (id ver : Nat) : rvBox ob none (.adr id ver 0) = (oBox (ob id) ver).bind fun cells => cells[0]? := rfl
theorem rvBox_n (id ver n : Nat) : rvBox ob (some n) (.adr id ver 0) = (oBox (ob id) ver).bind fun cells => if n ≤ cells.length then some (.agg (cells.take n)) else none := rfl
theorem parOf_nil (i : Nat) : parOf [] i = none := rfl
theorem parOf_cons (p : Nat) (ps : List Nat) (i : Nat) : parOf (p :: ps) i = if i = p then some 0 else (parOf ps i).map (· + 1) := rfl
theorem outAll_1 (ps : List Nat) (a : A) : outAll ps ob [a] = outBox ps ob a := rfl
theorem outAll_0 (ps : List Nat) : outAll ps ob [] = some (.tup [], []) := rfl
theorem outAll_2 (ps : List Nat) (a b : A) (r : List A) : outAll ps ob (a :: b :: r) = (outXs ps ob (a :: b :: r)).bind fun x => some (.tup x.1, x.2) := by
  show (outXs ps ob (a :: b :: r)).map _ = _
  cases outXs ps ob (a :: b :: r) <;> rfl
theorem outBox_d (ps : List Nat) (x : D) : outBox ps ob (.d x) = some (.d x, []) := rfl
theorem outBox_nil (ps : List Nat) : outBox ps ob .nil = some (.nil, []) := rfl
theorem outBox_row (ps : List Nat) (id ver : Nat) : outBox ps ob (.row id ver) = oOut (parOf ps id) (ob id) id ver := by
  show outX ps ob (.row id ver) = _
  rw [outX_row]
theorem outBox_agg (ps : List Nat) (cs : List A) : outBox ps ob (.agg cs) = (outXs ps ob cs).bind fun x => some (.agg x.1, x.2) := by
  show (outXs ps ob cs).map _ = _
  cases outXs ps ob cs <;> rfl
theorem outX_d (ps : List Nat) (x : D) : outX ps ob (.d x) = some (.d x, []) := rfl
theorem outX_nil (ps : List Nat) : outX ps ob .nil = some (.nil, []) := rfl
theorem outX_agg (ps : List Nat) (cs : List A) : outX ps ob (.agg cs) = (outXs ps ob cs).bind fun x => some (.agg x.1, x.2) := by
  simp only [outX]; cases outXs ps ob cs <;> rfl
theorem outXs_nil (ps : List Nat) : outXs ps ob [] = some ([], []) := rfl
theorem outXs_cons (ps : List Nat) (a : A) (r : List A) : outXs ps ob (a :: r) = (outX ps ob a).bind fun x => (outXs ps ob r).bind fun y => some (x.1 :: y.1, x.2 ++ y.2) := by
  simp only [outXs]
  cases outX ps ob a with
  | none => rfl
  | some p => cases outXs ps ob r <;> rfl
theorem outPar_box (v : Nat) (cells : List A) (lk : Bool) : outPar ob ⟨v, .box cells, lk⟩ = if v = 1 then snapsN ob cells else none := rfl
theorem snapN_d (x : D) : snapN ob (.d x) = some (x, []) := rfl
theorem snapN_nil : snapN ob .nil = some (.nils, []) := rfl
theorem snapN_row (id ver : Nat) : snapN ob (.row id ver) = oSnap (ob id) id ver := rfl
theorem snapsN_nil : snapsN ob [] = some ([], []) := rfl
theorem snapsN_cons (a : A) (r : List A) : snapsN ob (a :: r) = (snapN ob a).bind fun p => (snapsN ob r).bind fun q => some (p.1 :: q.1, p.2 ++ q.2) := by
  simp only [snapsN]
  cases snapN ob a with
  | none => rfl
  | some p => obtain ⟨x, l⟩ := p; cases snapsN ob r <;> rfl
theorem dA_int (k : IntKind) (n : Int) : dA (.int k n) = .d (.int k n) := rfl
theorem dA_bool (b : Bool) : dA (.bool b) = .d (.bool b) := rfl
theorem dA_str (l : List UInt8) : dA (sD l) = .d (sD l) := rfl
theorem dA_fn (f : FuncId) : dA (.fn f) = .d (.fn f) := rfl
theorem dA_T {α : Type} (c : Enc α) (l : List α) : dA (lstT c l) = .d (lstT c l) := rfl
theorem dA_lst0 : dA (.lst 0 []) = .d (.lst 0 []) := rfl
theorem dA_iD (n : Int) : dA (iD n) = .d (.int .i64 n) := rfl
theorem dA_nils : dA .nils = .nil := rfl
theorem dA_nilp : dA .nilp = .d .nilp := rfl
theorem dA_nilf : dA .nilf = .d .nilf := rfl
theorem dA_nili : dA .nili = .d .nili := rfl
theorem dA_iface (t : TypeId) (x : D) : dA (.iface t x) = .d (.iface t x) := rfl
theorem dA_ifaceS (t : TypeId) (x : List D) : dA (.ifaceS t x) = .d (.ifaceS t x) := rfl
theorem flat_nils : D.nils.flat = true := rfl
theorem outParams_eq (ps : List Nat) : outParams ob ps = (outPars ob ps).bind fun y => if y.2.any (fun m => ps.any (· == m)) = true then none else some y := rfl
theorem outPars_nil : outPars ob [] = some ([], []) := rfl
theorem outPars_cons (id : Nat) (r : List Nat) : outPars ob (id :: r) = (outPar ob (ob id)).bind fun x => (outPars ob r).bind fun y => some (x.1 :: y.1, x.2 ++ y.2) := by
  simp only [outPars]
  cases outPar ob (ob id) with
  | none => rfl
  | some p => simp only [Option.bind_some]; cases outPars ob r <;> rfl
theorem kinds_nil : kindsAs ob [] = true := rfl
theorem kinds_cons (id : Nat) (k : KO) (r : List (Nat × KO)) : kindsAs ob ((id, k) :: r) = (kindAs (ob id) k && kindsAs ob r) := rfl
theorem enter_nil (i : Nat) : enter i [] = ([], []) := rfl
theorem enter_cons (i : Nat) (x : X) (r : List X) : enter i (x :: r) = ((i, (ofX (fun _ => {}) i x 0).1) :: (enter (i + 1) r).1, (ofX (fun _ => {}) i x 0).2.1 ++ (enter (i + 1) r).2) := rfl

/-! the head of a loop -/
def canonW (ps keep : List Nat) (st : St) (m : List (Nat × Nat)) : Option St :=
  if (distinct (m.map (·.1)) && distinct (m.map (·.2)) && m.all (fun p => renOk m st.ob (st.ob p.1).o) && ps.all (fun p => newOf m p == some p && (st.ob p).ver == 1)) = true then
    some ⟨slotsOf (keep.map fun n => (n, renA m st.ob (st.slot n))), obsOf (m.map fun p => (p.2, ⟨1, renO m st.ob (st.ob p.1).o, (st.ob p.1).leak⟩))⟩ else none
@[congr] theorem canonW_congr {ps keep : List Nat} {st : St} {m m' : List (Nat × Nat)} (h : m = m') : canonW ps keep st m = canonW ps keep st m' := by rw [h]
theorem canon_W (ps keep : List Nat) : canon ps keep st = canonW ps keep st (names keep st) := rfl
theorem canonW_eq (ps keep : List Nat) (m : List (Nat × Nat)) : canonW ps keep ⟨s, ob⟩ m =
  if (distinct (m.map (·.1)) && distinct (m.map (·.2)) && m.all (fun p => renOk m ob (ob p.1).o) && ps.all (fun p => newOf m p == some p && (ob p).ver == 1)) = true then
    some ⟨slotsOf (keep.map fun n => (n, renA m ob (s n))), obsOf (m.map fun p => (p.2, ⟨1, renO m ob (ob p.1).o, (ob p.1).leak⟩))⟩ else none := rfl
theorem names_eq (keep : List Nat) : names keep ⟨s, ob⟩ = firsts [] (keep.flatMap fun n => scan ob (oid n 0) (s n)) := rfl
def scanB (ob : Nat → Ob) (x : Ob) (base id ver : Nat) : List (Nat × Nat) := match x.o with
  | .box cells => if x.ver = ver then (id, base) :: scanRows ob (base + 1) cells else []
  | _ => []
theorem scan_d (base : Nat) (x : D) : scan ob base (.d x) = [] := rfl
theorem scan_nil (base : Nat) : scan ob base .nil = [] := rfl
theorem scan_undef (base : Nat) : scan ob base .undef = [] := rfl
theorem scan_cp (base : Nat) (cs : List D) : scan ob base (.cp cs) = [] := rfl
theorem scan_row (base id ver : Nat) : scan ob base (.row id ver) = if (ob id).ver = ver then [(id, base)] else [] := rfl
theorem scan_rad (base id ver o : Nat) : scan ob base (.rad id ver o) = [] := rfl
theorem scan_tup (base : Nat) (cs : List A) : scan ob base (.tup cs) = [] := rfl
theorem scan_adr (base id ver o : Nat) : scan ob base (.adr id ver o) = scanB ob (ob id) base id ver := rfl
theorem scan_agg (base : Nat) (cs : List A) : scan ob base (.agg cs) = scanRows ob (base + 1) cs := rfl
theorem scanB_box (base id ver v : Nat) (cells : List A) (lk : Bool) : scanB ob ⟨v, .box cells, lk⟩ base id ver = if v = ver then (id, base) :: scanRows ob (base + 1) cells else [] := rfl
theorem scanRows_nil (base : Nat) : scanRows ob base [] = [] := rfl
theorem scanRows_cons (base : Nat) (a : A) (r : List A) : scanRows ob base (a :: r) = scanRow ob base a ++ scanRows ob (base + 1) r := rfl
theorem scanRow_d (base : Nat) (x : D) : scanRow ob base (.d x) = [] := rfl
theorem scanRow_nil (base : Nat) : scanRow ob base .nil = [] := rfl
theorem scanRow_row (base id ver : Nat) : scanRow ob base (.row id ver) = if (ob id).ver = ver then [(id, base)] else [] := rfl
theorem firsts_nil (acc : List (Nat × Nat)) : firsts acc [] = acc := rfl
theorem firsts_cons (acc : List (Nat × Nat)) (i j : Nat) (r : List (Nat × Nat)) : firsts acc ((i, j) :: r) = firsts (if (acc.any (fun p => p.1 == i)) = true then acc else acc ++ [(i, j)]) r := rfl
theorem newOf_nil (n : Nat) : newOf [] n = none := rfl
theorem newOf_cons (i j n : Nat) (r : List (Nat × Nat)) : newOf ((i, j) :: r) n = if n = i then some j else newOf r n := rfl
def renRow (o : Option Nat) : A := match o with | some j => .row j 1 | none => .undef
def renAdr (o : Option Nat) (off : Nat) : A := match o with | some j => .adr j 1 off | none => .undef
theorem renRow_s (j : Nat) : renRow (some j) = .row j 1 := rfl
theorem renAdr_s (j off : Nat) : renAdr (some j) off = .adr j 1 off := rfl
theorem renA_d (m : List (Nat × Nat)) (x : D) : renA m ob (.d x) = .d x := rfl
theorem renA_nil (m : List (Nat × Nat)) : renA m ob .nil = .nil := rfl
theorem renA_undef (m : List (Nat × Nat)) : renA m ob .undef = .undef := rfl
theorem renA_cp (m : List (Nat × Nat)) (cs : List D) : renA m ob (.cp cs) = .cp cs := rfl
theorem renA_row (m : List (Nat × Nat)) (id ver : Nat) : renA m ob (.row id ver) = if (ob id).ver = ver then renRow (newOf m id) else .undef := rfl
theorem renA_adr (m : List (Nat × Nat)) (id ver off : Nat) : renA m ob (.adr id ver off) = if (ob id).ver = ver then renAdr (newOf m id) off else .undef := rfl
theorem renA_rad (m : List (Nat × Nat)) (id ver off : Nat) : renA m ob (.rad id ver off) = .undef := rfl
theorem renA_agg (m : List (Nat × Nat)) (cs : List A) : renA m ob (.agg cs) = .agg (renAs m ob cs) := rfl
theorem renA_tup (m : List (Nat × Nat)) (cs : List A) : renA m ob (.tup cs) = .tup (renAs m ob cs) := rfl
theorem renAs_nil (m : List (Nat × Nat)) : renAs m ob [] = [] := rfl
theorem renAs_cons (m : List (Nat × Nat)) (a : A) (r : List A) : renAs m ob (a :: r) = renA m ob a :: renAs m ob r := rfl
theorem distinct_nil : distinct [] = true := rfl
theorem distinct_cons' (x : Nat) (r : List Nat) : distinct (x :: r) = (!(r.any (· == x)) && distinct r) := rfl
theorem any_nil {α : Type} (f : α → Bool) : List.any [] f = false := rfl
theorem any_cons {α : Type} (f : α → Bool) (a : α) (l : List α) : List.any (a :: l) f = (f a || List.any l f) := rfl
theorem fm_nil {α β : Type} (f : α → List β) : List.flatMap f [] = [] := rfl
theorem fm_cons {α β : Type} (f : α → List β) (a : α) (l : List α) : List.flatMap f (a :: l) = f a ++ List.flatMap f l := by simp
theorem at_0 {α : Type} (a : α) (l : List α) : (a :: l)[0]? = some a := rfl
theorem at_s {α : Type} (a : α) (l : List α) (n : Nat) : (a :: l)[n + 1]? = l[n]? := rfl
theorem drop_0 {α : Type} (l : List α) : l.drop 0 = l := rfl
theorem drop_s {α : Type} (a : α) (l : List α) (n : Nat) : (a :: l).drop (n + 1) = l.drop n := rfl
theorem gT_call (f : FuncId) (live : List Nat) (d : Nat) (a : A) (u : Nat × Ob) (us : List (Nat × Ob)) (L : List SOper) : gOutT E live (some d) (.call f) (some (.val a (u :: us))) L k st = gT E live L k { slot := upd st.slot d a, ob := updAll st.ob (u :: us) } := gOutT_val _ _ _ rfl _ _ _ _
theorem gT_dyn  (live : List Nat) (d : Nat) (a : A) (u : Nat × Ob) (us : List (Nat × Ob)) (L : List SOper) : gOutT E live (some d) .dyn (some (.val a (u :: us))) L k st = gT E live L k { slot := upd st.slot d a, ob := updAll st.ob (u :: us) } := gOutT_val _ _ _ rfl _ _ _ _
theorem gT_box  (live : List Nat) (d : Nat) (a : A) (u : Nat × Ob) (us : List (Nat × Ob)) (L : List SOper) : gOutT E live (some d) .box (some (.val a (u :: us))) L k st = gT E live L k { slot := upd st.slot d a, ob := updAll st.ob (u :: us) } := gOutT_val _ _ _ rfl _ _ _ _
theorem gT_alloc (z : List A) (live : List Nat) (d : Nat) (a : A) (u : Nat × Ob) (us : List (Nat × Ob)) (L : List SOper) : gOutT E live (some d) (.alloc z) (some (.val a (u :: us))) L k st = gT E live L k { slot := upd st.slot d a, ob := updAll st.ob (u :: us) } := gOutT_val _ _ _ rfl _ _ _ _
theorem gT_lit (e s l : Nat) (live : List Nat) (d : Nat) (a : A) (u : Nat × Ob) (us : List (Nat × Ob)) (L : List SOper) : gOutT E live (some d) (lit e s l) (some (.val a (u :: us))) L k st = gT E live L k { slot := upd st.slot d a, ob := updAll st.ob (u :: us) } := gOutT_val _ _ _ rfl _ _ _ _
theorem gT_mkS (e s b : Nat) (z : List D) (live : List Nat) (d : Nat) (a : A) (u : Nat × Ob) (us : List (Nat × Ob)) (L : List SOper) : gOutT E live (some d) (.mkS e s b z) (some (.val a (u :: us))) L k st = gT E live L k { slot := upd st.slot d a, ob := updAll st.ob (u :: us) } := gOutT_val _ _ _ rfl _ _ _ _
theorem gT_app (e s b : Nat) (live : List Nat) (d : Nat) (a : A) (u : Nat × Ob) (us : List (Nat × Ob)) (L : List SOper) : gOutT E live (some d) (.app e s b) (some (.val a (u :: us))) L k st = gT E live L k { slot := upd st.slot d a, ob := updAll st.ob (u :: us) } := gOutT_val _ _ _ rfl _ _ _ _
theorem gT_appZ (e s b : Nat) (z : List D) (live : List Nat) (d : Nat) (a : A) (u : Nat × Ob) (us : List (Nat × Ob)) (L : List SOper) : gOutT E live (some d) (.appZ e s b z) (some (.val a (u :: us))) L k st = gT E live L k { slot := upd st.slot d a, ob := updAll st.ob (u :: us) } := gOutT_val _ _ _ rfl _ _ _ _
theorem gT_cut (s : Nat) (live : List Nat) (d : Nat) (a : A) (u : Nat × Ob) (us : List (Nat × Ob)) (L : List SOper) : gOutT E live (some d) (.cut s) (some (.val a (u :: us))) L k st = gT E live L k { slot := upd st.slot d a, ob := updAll st.ob (u :: us) } := gOutT_val _ _ _ rfl _ _ _ _
theorem isSt_appZ (e s b : Nat) (z : List D) : SOp.isSt (.appZ e s b z) = false := rfl
theorem isSt_cut (s : Nat) : SOp.isSt (.cut s) = false := rfl
theorem qt_appZ (e s b : Nat) (z : List D) : SOp.quiet (.appZ e s b z) = false := rfl
theorem qt_cut (s : Nat) : SOp.quiet (.cut s) = false := rfl
theorem gT_st (n : Nat) (live : List Nat) (d : Nat) (a : A) (u : Nat × Ob) (us : List (Nat × Ob)) (L : List SOper) : gOutT E live (some d) (.st n) (some (.val a (u :: us))) L k st = gT E live L k { slot := upd st.slot d a, ob := updAll st.ob (u :: us) } := gOutT_val _ _ _ rfl _ _ _ _
theorem gT_stn (n : Nat) (live : List Nat) (a : A) (us : List (Nat × Ob)) (L : List SOper) : gOutT E live none (.st n) (some (.val a us)) L k st = gT E live L k { slot := st.slot, ob := updAll st.ob us } := gOutT_none _ _ rfl _ _ _
theorem isSt_call (f : FuncId) : SOp.isSt (.call f) = false := rfl
theorem isSt_dyn  : SOp.isSt .dyn = false := rfl
theorem isSt_box  : SOp.isSt .box = false := rfl
theorem isSt_alloc (z : List A) : SOp.isSt (.alloc z) = false := rfl
theorem isSt_lit (e s l : Nat) : SOp.isSt (lit e s l) = false := rfl
theorem isSt_mkS (e s b : Nat) (z : List D) : SOp.isSt (.mkS e s b z) = false := rfl
theorem isSt_app (e s b : Nat) : SOp.isSt (.app e s b) = false := rfl
theorem isSt_st (n : Nat) : SOp.isSt (.st n) = true := rfl
theorem refs_row (i v : Nat) : refs (.row i v) = [i] := rfl
theorem refs_adr (i v o : Nat) : refs (.adr i v o) = [i] := rfl
theorem refs_rad (i v o : Nat) : refs (.rad i v o) = [i] := rfl
theorem refs_d (x : D) : refs (.d x) = [] := rfl
theorem refs_nil : refs .nil = [] := rfl
theorem refs_undef : refs .undef = [] := rfl
theorem refs_cp (x : List D) : refs (.cp x) = [] := rfl
theorem refs_agg (cs : List A) : refs (.agg cs) = cs.flatMap refs1 := rfl
theorem refs_tup (cs : List A) : refs (.tup cs) = cs.flatMap refs1 := rfl
theorem refs1_row (i v : Nat) : refs1 (.row i v) = [i] := rfl
theorem refs1_adr (i v o : Nat) : refs1 (.adr i v o) = [i] := rfl
theorem refs1_d (x : D) : refs1 (.d x) = [] := rfl
theorem refs1_nil : refs1 .nil = [] := rfl
theorem touched_nil (op : SOp) : touched op ob [] = [] := rfl
theorem touched_cons (op : SOp) (i : Nat) (x : Ob) (r : List (Nat × Ob)) : touched op ob ((i, x) :: r) = if (!op.isSt && x.leak && x.ver == (ob i).ver) = true then touched op ob r else i :: touched op ob r := rfl
end

section
variable {Γ : Ctx} {ob : Nat → Ob} {d : Nat}
theorem es_ld (id ver off : Nat) : eval Γ ob d (.ld none) [.adr id ver off] = (oBox (ob id) ver).bind fun cells => (cells[off]?).bind fun a => some (.val a []) := rfl
theorem es_ldN (n id ver off : Nat) : eval Γ ob d (.ld (some n)) [.adr id ver off] = (oBox (ob id) ver).bind fun cells => if off + n ≤ cells.length then some (.val (.agg ((cells.drop off).take n)) []) else none := rfl
theorem es_fa (off id ver o : Nat) : eval Γ ob d (.fa off) [.adr id ver o] = (oBox (ob id) ver).bind fun _ => some (.val (.adr id ver (o + off)) []) := rfl
theorem es_st (n id ver off : Nat) (a : A) : eval Γ ob d (.st n) [.adr id ver off, a] = (oBox (ob id) ver).bind fun cells =>
      if off + n ≤ cells.length ∧ (cellsOf a).length = n ∧ (cellsOf a).all one = true then
        some (.val .undef [(id, ⟨(ob id).ver, .box (cells.take off ++ cellsOf a ++ cells.drop (off + n)), (ob id).leak⟩)]) else none := rfl
theorem es_nilck (id ver off : Nat) : eval Γ ob d .nilck [.adr id ver off] = (oBox (ob id) ver).bind fun _ => some (.val (.adr id ver off) []) := rfl
theorem es_box (a : A) : eval Γ ob d .box [a] = if (cellsOf a).all one = true then some (.val (.adr (oid d 0) ((ob (oid d 0)).ver + 1) 0) [(oid d 0, ⟨(ob (oid d 0)).ver + 1, .box (cellsOf a), false⟩)]) else none := rfl
theorem es_alloc (cells : List A) : eval Γ ob d (.alloc cells) [] = if cells.all one = true then some (.val (.adr (oid d 0) ((ob (oid d 0)).ver + 1) 0) [(oid d 0, ⟨(ob (oid d 0)).ver + 1, .box cells, false⟩)]) else none := rfl
theorem es_bld (zero : List A) (parts : List (Nat × Nat)) (as : List A) : eval Γ ob d (.bld zero parts) as = (fillA zero parts as).bind fun cs => some (.val (.agg cs) []) := rfl
theorem es_fld (off : Nat) (cs : List A) : eval Γ ob d (.fld off none) [.agg cs] = (cs[off]?).bind fun a => some (.val a []) := rfl
theorem es_fldN (off n : Nat) (cs : List A) : eval Γ ob d (.fld off (some n)) [.agg cs] = if off + n ≤ cs.length then some (.val (.agg ((cs.drop off).take n)) []) else none := rfl
theorem es_ext (i : Nat) (cs : List A) : eval Γ ob d (.ext i) [.tup cs] = (cs[i]?).bind fun a => some (.val a []) := rfl
theorem es_cvt (k k' : IntKind) (n : Int) : eval Γ ob d (.cvt k) [.d (.int k' n)] = some (.val (.d (.int k (k.wrap n))) []) := rfl
theorem es_mm (max : Bool) (k : IntKind) (a b : Int) : eval Γ ob d (.mm max) [.d (.int k a), .d (.int k b)] = some (.val (.d (.int k (if max = true then (if a < b then b else a) else (if b < a then b else a)))) []) := by simp [eval, ok]
theorem es_quo (k : IntKind) (a b : Int) : eval Γ ob d (.bin .quo) [.d (.int k a), .d (.int k b)] = if b = 0 then none else some (.val (.d (.int k (k.wrap (a.tdiv b)))) []) := by
  simp only [eval, evBin, intBin, ok, if_true]; split <;> rfl
theorem es_rem (k : IntKind) (a b : Int) : eval Γ ob d (.bin .rem) [.d (.int k a), .d (.int k b)] = if b = 0 then none else some (.val (.d (.int k (a.tmod b))) []) := by
  simp only [eval, evBin, intBin, ok, if_true]; split <;> rfl
theorem es_pan1 (t : Nat) (x : D) : eval Γ ob d .pan [.d (.iface t x)] = some (.pan (.iface t x) []) := rfl
theorem es_panS (t : Nat) (xs : List D) : eval Γ ob d .pan [.d (.ifaceS t xs)] = some (.pan (.ifaceS t xs) []) := rfl
theorem es_mkF (f : FuncId) : eval Γ ob d (.mkF f) [] = some (.val (.d (.fn f)) []) := rfl
theorem es_mkI (t : TypeId) (x : D) : eval Γ ob d (.mkI t) [.d x] = some (.val (.d (.iface t x)) []) := rfl
theorem es_mkIS (t : TypeId) (cs : List A) : eval Γ ob d (.mkI t) [.agg cs] = (snaps ob cs).bind fun p => some (.val (.d (.ifaceS t p.1)) (leaks ob p.2)) := rfl
theorem es_bldS (e size len : Nat) (parts : List (Nat × Nat)) (as : List A) : eval Γ ob d (.bldS e size len parts) as =
    if parts = (List.range len).map (fun i => (i * size, size)) ∧ as.length = len ∧ (as.all fun a => decide ((cellsOf a).length = size)) = true then
      (snaps ob (as.flatMap cellsOf)).bind fun p => some (.val (.row (oid d 0) ((ob (oid d 0)).ver + 1)) (leaks ob p.2 ++ [(oid d 0, ⟨(ob (oid d 0)).ver + 1, .row e size len (some len) p.1, false⟩)])) else none := by
  simp only [eval]; rfl
/-- what a slice literal makes; what make makes -/
def litRow (e size len : Nat) (xs : List D) : O := .row e size len (some len) xs
def zeroRow (e size n : Nat) (cap : Nat) (zero : List D) : O := .row e size n (some cap) (List.replicate n zero).flatten
theorem es_lit (e size len : Nat) (as : List A) : eval Γ ob d (lit e size len) as =
    if as.length = len ∧ (as.all fun a => decide ((cellsOf a).length = size)) = true then
      (snaps ob (as.flatMap cellsOf)).bind fun p => some (.val (.row (oid d 0) ((ob (oid d 0)).ver + 1)) (leaks ob p.2 ++ [(oid d 0, ⟨(ob (oid d 0)).ver + 1, litRow e size len p.1, false⟩)])) else none := by
  unfold lit litRow
  rw [es_bldS]
  by_cases h : as.length = len ∧ (as.all fun a => decide ((cellsOf a).length = size)) = true
  · rw [if_pos h, if_pos ⟨rfl, h.1, h.2⟩]
  · rw [if_neg h, if_neg (fun q => h q.2)]
/-- make's lengths are in order -/
def mkOk (bytes : Nat) (l c : Int) : Prop := 0 ≤ l ∧ l ≤ c ∧ (bytes : Int) * c ≤ roomB ∧ c ≤ 9223372036854775807
instance (b : Nat) (l c : Int) : Decidable (mkOk b l c) := by unfold mkOk; infer_instance
theorem es_mkS (e size bytes : Nat) (zero : List D) (k k' : IntKind) (l c : Int) : eval Γ ob d (.mkS e size bytes zero) [.d (.int k l), .d (.int k' c)] =
    if mkOk bytes l c then if zero.length = size ∧ 0 < size then
      some (.val (.row (oid d 0) ((ob (oid d 0)).ver + 1)) [(oid d 0, ⟨(ob (oid d 0)).ver + 1, zeroRow e size l.toNat c.toNat zero, false⟩)]) else none else none := by
  by_cases h : mkOk bytes l c
  · rw [if_pos h]
    by_cases h' : zero.length = size ∧ 0 < size
    · rw [if_pos h']
      exact if_pos ⟨h.1, h.2.1, h.2.2.1, h.2.2.2, h'.1, h'.2⟩
    · rw [if_neg h']
      exact if_neg (fun q => h' ⟨q.2.2.2.2.1, q.2.2.2.2.2⟩)
  · rw [if_neg h]
    exact if_neg (fun q => h ⟨q.1, q.2.1, q.2.2.1, q.2.2.2.1⟩)
theorem es_sAdd (a b : List UInt8) : eval Γ ob d (.bin .add) [.d (sD a), .d (sD b)] = if roomS (a ++ b).length then some (.val (.d (sD (a ++ b))) []) else none := by
  simp only [eval, evBin, strBin, sD, roomS, List.length_append]
  have h1 : (ByteArray.mk a.toArray).size = a.length := rfl
  have h2 : (ByteArray.mk b.toArray).size = b.length := rfl
  rw [h1, h2]
  split
  · simp only [Option.bind_some, ok]
    congr 5
  · rfl
theorem es_sEql (a b : List UInt8) : eval Γ ob d (.bin .eql) [.d (sD a), .d (sD b)] = some (.val (.d (.bool (decide (a = b)))) []) := by
  simp only [eval, evBin, strBin, sD, toList_S, Option.bind_some, ok]
  congr 4
  exact (Bool.beq_eq_decide_eq a b)
theorem es_sNeq (a b : List UInt8) : eval Γ ob d (.bin .neq) [.d (sD a), .d (sD b)] = some (.val (.d (.bool (!decide (a = b)))) []) := by
  simp only [eval, evBin, strBin, sD, toList_S, Option.bind_some, ok]
  congr 5
  exact (Bool.beq_eq_decide_eq a b)
/-- bytes in their order -/
def lessS (a b : List UInt8) : Bool := Op.bytesLess a b
theorem es_sLss (a b : List UInt8) : eval Γ ob d (.bin .lss) [.d (sD a), .d (sD b)] = some (.val (.d (.bool (lessS a b))) []) := by
  simp only [eval, evBin, strBin, sD, toList_S, Option.bind_some, ok, lessS]
theorem es_sGeq (a b : List UInt8) : eval Γ ob d (.bin .geq) [.d (sD a), .d (sD b)] = some (.val (.d (.bool (!lessS a b))) []) := by
  simp only [eval, evBin, strBin, sD, toList_S, Option.bind_some, ok, lessS]
theorem fillA_nil (z : List A) : fillA z [] [] = some z := rfl
theorem fillA_cons (z : List A) (off size : Nat) (ps : List (Nat × Nat)) (a : A) (r : List A) : fillA z ((off, size) :: ps) (a :: r) =
    if (cellsOf a).length = size ∧ off + size ≤ z.length ∧ (cellsOf a).all one = true then fillA (z.take off ++ cellsOf a ++ z.drop (off + size)) ps r else none := rfl
theorem cellsOf_row (i v : Nat) : cellsOf (.row i v) = [.row i v] := rfl
theorem cellsOf_nil : cellsOf .nil = [.nil] := rfl
theorem cellsOf_adr (i v o : Nat) : cellsOf (.adr i v o) = [.adr i v o] := rfl
theorem fa_cp0 (xs : List D) : eval Γ ob d (.fa 0) [.cp xs] = some (.val (.cp xs) []) := by simp [eval, evFa, ok]
theorem fa_cp1 (a : D) (xs : List D) : eval Γ ob d (.fa 1) [.cp (a :: xs)] = some (.val (.cp xs) []) := by simp [eval, evFa, ok]
theorem fa_cp2 (a b : D) (xs : List D) : eval Γ ob d (.fa 2) [.cp (a :: b :: xs)] = some (.val (.cp xs) []) := by simp [eval, evFa, ok]
theorem fa_cp3 (a b c : D) (xs : List D) : eval Γ ob d (.fa 3) [.cp (a :: b :: c :: xs)] = some (.val (.cp xs) []) := by simp [eval, evFa, ok]
theorem fa_cp4 (a b c e : D) (xs : List D) : eval Γ ob d (.fa 4) [.cp (a :: b :: c :: e :: xs)] = some (.val (.cp xs) []) := by simp [eval, evFa, ok]
theorem ldN_cp1 (a : D) (xs : List D) : eval Γ ob d (.ld (some 1)) [.cp (a :: xs)] = some (.val (.agg [.d a]) []) := by simp [eval, evLdN, ok]
theorem ldN_cp2 (a b : D) (xs : List D) : eval Γ ob d (.ld (some 2)) [.cp (a :: b :: xs)] = some (.val (.agg [.d a, .d b]) []) := by simp [eval, evLdN, ok]
theorem ldN_cp3 (a b c : D) (xs : List D) : eval Γ ob d (.ld (some 3)) [.cp (a :: b :: c :: xs)] = some (.val (.agg [.d a, .d b, .d c]) []) := by simp [eval, evLdN, ok]
theorem ldN_cp4 (a b c e : D) (xs : List D) : eval Γ ob d (.ld (some 4)) [.cp (a :: b :: c :: e :: xs)] = some (.val (.agg [.d a, .d b, .d c, .d e]) []) := by simp [eval, evLdN, ok]
theorem fa_cp5 (a b c e f : D) (xs : List D) : eval Γ ob d (.fa 5) [.cp (a :: b :: c :: e :: f :: xs)] = some (.val (.cp xs) []) := by simp [eval, evFa, ok]
theorem ldN_cp5 (a b c e f : D) (xs : List D) : eval Γ ob d (.ld (some 5)) [.cp (a :: b :: c :: e :: f :: xs)] = some (.val (.agg [.d a, .d b, .d c, .d e, .d f]) []) := by simp [eval, evLdN, ok]
theorem ldN_cp6 (a b c e f g : D) (xs : List D) : eval Γ ob d (.ld (some 6)) [.cp (a :: b :: c :: e :: f :: g :: xs)] = some (.val (.agg [.d a, .d b, .d c, .d e, .d f, .d g]) []) := by simp [eval, evLdN, ok]
theorem es_inil_t (neg : Bool) : eval Γ ob d (.inil neg) [.d .nili] = some (.val (.d (.bool !neg)) []) := rfl
theorem es_inil_i (neg : Bool) (t : TypeId) (x : D) : eval Γ ob d (.inil neg) [.d (.iface t x)] = some (.val (.d (.bool neg)) []) := rfl
theorem es_inil_s (neg : Bool) (t : TypeId) (xs : List D) : eval Γ ob d (.inil neg) [.d (.ifaceS t xs)] = some (.val (.d (.bool neg)) []) := rfl
theorem es_ta1 (t u : TypeId) (x : D) : eval Γ ob d (.ta t) [.d (.iface u x)] = if u = t then some (.val (.tup [.d x, .d (.bool true)]) []) else none := rfl
theorem es_taS (t u : TypeId) (xs : List D) : eval Γ ob d (.ta t) [.d (.ifaceS u xs)] = if u = t then some (.val (.tup [.agg (xs.map .d), .d (.bool true)]) []) else none := rfl
theorem es_iaa (n size id ver o : Nat) (k : IntKind) (i : Int) : eval Γ ob d (.iaa n size) [.adr id ver o, .d (.int k i)] =
    (oBox (ob id) ver).bind fun _ => if 0 ≤ i ∧ i < (n : Int) then some (.val (.adr id ver (o + i.toNat * size)) []) else none := rfl
theorem es_ixa (n size : Nat) (cs : List A) (k : IntKind) (i : Int) : eval Γ ob d (.ixa n size none) [.agg cs, .d (.int k i)] =
    if 0 ≤ i ∧ i < (n : Int) then (cs[i.toNat * size]?).bind fun a => some (.val a []) else none := rfl
/-- a place in a table that is written out -/
def tab {α : Type} : List α → Nat → Nat → Option α
  | [], _, _ => none
  | a :: l, n, j => if n = j then some a else tab l n (j + 1)
theorem tab_nil {α : Type} (n j : Nat) : tab ([] : List α) n j = none := rfl
theorem tab_cons {α : Type} (a : α) (l : List α) (n j : Nat) : tab (a :: l) n j = if n = j then some a else tab l n (j + 1) := rfl
theorem tab_get {α : Type} : ∀ (l : List α) (n j : Nat), tab l (n + j) j = l[n]?
  | [], n, j => by simp [tab]
  | a :: l, 0, j => by simp [tab]
  | a :: l, n + 1, j => by
    simp only [tab, List.getElem?_cons_succ]
    rw [if_neg (by omega), ← tab_get l n (j + 1)]
    congr 1; omega
theorem at_tab {α : Type} (a : α) (l : List α) (i : Int) (s : Nat) : (a :: l)[i.toNat * s]? = tab (a :: l) (i.toNat * s) 0 := (tab_get (a :: l) (i.toNat * s) 0).symm
theorem at_tab1 {α : Type} (a : α) (l : List α) (i : Int) : (a :: l)[i.toNat]? = tab (a :: l) i.toNat 0 := (tab_get (a :: l) i.toNat 0).symm
theorem gFz_adr {E : En} {k : List KJ} {st : St} (b : Cd) (id ver off : Nat) : gFz E b k st (.adr id ver off) = (oBox (st.ob id) ver).bind fun cells => (snaps st.ob cells).bind fun p =>
    G E b k { slot := st.slot, ob := updAll st.ob (leaks st.ob p.2 ++ [(id, ⟨(st.ob id).ver, .box (p.1.map dA), (st.ob id).leak⟩)]) } := rfl
/-- a cell of a table that may be written -/
def selA (a : A) (p : Prop) [Decidable p] (q : IntKind) (x : Int) : A := match a with
  | .d (.int q' y) => if q' = q then .d (.int q (if p then x else y)) else if p then .d (.int q x) else a
  | _ => if p then .d (.int q x) else a
theorem selA_eq (a : A) (p : Prop) [Decidable p] (q : IntKind) (x : Int) : selA a p q x = if p then .d (.int q x) else a := by
  unfold selA
  split
  · split
    · rename_i e; subst e; split <;> rfl
    · rfl
  · rfl
theorem selA_int (y : Int) (p : Prop) [Decidable p] (q : IntKind) (x : Int) : selA (.d (.int q y)) p q x = .d (.int q (if p then x else y)) := by
  unfold selA; simp
theorem selA_iD (y : Int) (p : Prop) [Decidable p] (x : Int) : selA (.d (iD y)) p .i64 x = .d (.int .i64 (if p then x else y)) := selA_int y p .i64 x
theorem Ad_iD (n : Int) : A.d (iD n) = .d (.int .i64 n) := rfl
def setC : List A → Nat → Nat → IntKind → Int → List A
  | [], _, _, _, _ => []
  | a :: l, k, j, q, x => selA a (j = k) q x :: setC l (k + 1) j q x
theorem setC_nil (k j : Nat) (q : IntKind) (x : Int) : setC [] k j q x = [] := rfl
theorem setC_cons (a : A) (l : List A) (k j : Nat) (q : IntKind) (x : Int) : setC (a :: l) k j q x = selA a (j = k) q x :: setC l (k + 1) j q x := rfl
theorem setC_skip : ∀ (l : List A) (k j : Nat) (q : IntKind) (x : Int), j < k → setC l k j q x = l
  | [], _, _, _, _, _ => rfl
  | a :: l, k, j, q, x, h => by rw [setC_cons, selA_eq, if_neg (by omega), setC_skip l (k + 1) j q x (by omega)]
theorem setC_eq : ∀ (l : List A) (k j : Nat) (q : IntKind) (x : Int), j < l.length → setC l k (k + j) q x = l.take j ++ [.d (.int q x)] ++ l.drop (j + 1)
  | [], k, j, q, x, h => by simp at h
  | a :: l, k, 0, q, x, h => by rw [setC_cons, selA_eq, if_pos (by omega), setC_skip l (k + 1) (k + 0) q x (by omega)]; simp
  | a :: l, k, j + 1, q, x, h => by
    rw [setC_cons, selA_eq, if_neg (by omega), show k + (j + 1) = k + 1 + j by omega, setC_eq l (k + 1) j q x (by simpa using h)]
    simp
theorem st_sym (i : Int) (s id v : Nat) (q : IntKind) (x : Int) (lk : Bool) (cells : List A) :
    (if i.toNat * s + 1 ≤ cells.length ∧ (cellsOf (.d (.int q x))).length = 1 ∧ (cellsOf (.d (.int q x))).all one = true then
      some (Out.val .undef [(id, ⟨v, .box (cells.take (i.toNat * s) ++ cellsOf (.d (.int q x)) ++ cells.drop (i.toNat * s + 1)), lk⟩)]) else none)
    = if i.toNat * s < cells.length then some (Out.val .undef [(id, ⟨v, .box (setC cells 0 (i.toNat * s) q x), lk⟩)]) else none := by
  have e1 : (cellsOf (.d (.int q x))).length = 1 ∧ (cellsOf (.d (.int q x))).all one = true := ⟨rfl, rfl⟩
  by_cases h : i.toNat * s < cells.length
  · rw [if_pos ⟨by omega, e1⟩, if_pos h]
    have := setC_eq cells 0 (i.toNat * s) q x h
    rw [Nat.zero_add] at this
    rw [this]; rfl
  · rw [if_neg (fun p => by omega), if_neg h]
/-- what a box is known to hold after a panic -/
def stB (x : Option (List D × List Nat)) : O := match x with
  | some (xs, _) => .box (xs.map dA)
  | none => .dead
@[congr] theorem stB_congr {x x' : Option (List D × List Nat)} (h : x = x') : stB x = stB x' := by rw [h]
theorem stB_some (xs : List D) (l : List Nat) : stB (some (xs, l)) = .box (xs.map dA) := rfl
theorem stillO_box (cells : List A) : stillO ob (.box cells) = stB (snaps ob cells) := by
  simp only [stillO]
  cases snaps ob cells <;> rfl
theorem stillO_T {α : Type} (c : Enc α) (e : Nat) (cap : Option Nat) (l : List α) : stillO ob (rowT c e cap l) = .dead := rfl
theorem keepOb_nil : keepOb [] ob = [] := rfl
theorem keepOb_cons (id : Nat) (r : List Nat) : keepOb (id :: r) ob = (id, ⟨(ob id).ver, stillO ob (ob id).o, false⟩) :: keepOb r ob := rfl
@[congr] theorem gRec_congr {E : En} {ids da : List Nat} {x : D} {st st' : St} (h : st = st') : gRec E ids da x st = gRec E ids da x st' := by rw [h]
@[congr] theorem gB_congr {E : En} {b : Cd} {st st' : St} (h : st = st') : gB E b st = gB E b st' := by rw [h]
end
end Go.Vm
