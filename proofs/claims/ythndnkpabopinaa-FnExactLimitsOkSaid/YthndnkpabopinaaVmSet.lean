/- The abstract machine's equations, in two bundles. -/
import Derived.Test.YthndnkpabopinaaVmGo
set_option linter.unusedSectionVars false
set_option linter.unusedSimpArgs false
set_option linter.unusedVariables false
namespace Go.Vm

theorem goPre :
    (∀ {Γ : Ctx} {ps : List Nat} {n : Nat} {k : List KI} {st : St}, go Γ ps n .skip k st = resume Γ ps n k (.normal, st)) ∧
    (∀ {Γ : Ctx} {ps : List Nat} {n : Nat} {k : List KI} {st : St}, go Γ ps n .ret k st = resume Γ ps n k (.ret, st)) ∧
    (∀ {Γ : Ctx} {ps : List Nat} {n : Nat} {k : List KI} {st : St} (id : Nat), go Γ ps n (.exit id) k st = resume Γ ps n k (.exit id, st)) ∧
    (∀ {Γ : Ctx} {ps : List Nat} {n : Nat} {k : List KI} {st : St} (a b : Cd), go Γ ps n (sq a b) k st = go Γ ps n a (.c b :: k) st) ∧
    (∀ {Γ : Ctx} {ps : List Nat} {n : Nat} {k : List KI} {st : St} (id : Nat) (b : Cd), go Γ ps n (.block id b) k st = go Γ ps n b (.b id :: k) st) ∧
    (∀ {Γ : Ctx} {ps : List Nat} {n : Nat} {k : List KI} {st : St} (c : SA) (x y : Cd), go Γ ps n (.cond c x y) k st = goIf (truth (st.get c)) (go Γ ps n x k st) (go Γ ps n y k st)) ∧
    (∀ {Γ : Ctx} {ps : List Nat} {n : Nat} {k : List KI} {st : St} (live : List Nat) (l : List SOper), go Γ ps n (r live l) k st = goOps Γ ps n l (.v live :: k) st) ∧
    (∀ {Γ : Ctx} {ps : List Nat} {n : Nat} {k : List KI} {st : St} (watch live : List Nat) (l : List SOper), go Γ ps n (rd watch live l) k st = goT Γ ps n watch live l [] k st) ∧
    (∀ {Γ : Ctx} {ps : List Nat} {n : Nat} {k : List KI} {st : St} (keep : List Nat) (b : Cd), go Γ ps n (.loop keep b) k st = goLoop Γ ps n (loopF Γ ps n keep b n st) k) ∧
    (∀ {Γ : Ctx} {ps : List Nat} {n : Nat} {k : List KI} {st : St}, goOps Γ ps n [] k st = resume Γ ps n k (.normal, st)) ∧
    (∀ {Γ : Ctx} {ps : List Nat} {n : Nat} {k : List KI} {st : St} (d : Nat) (op : SOp) (as : List SA) (l : List SOper), goOps Γ ps n (o d op as :: l) k st = goOut Γ ps n (some d) (eval Γ st.ob d op (as.map st.get)) l k st) ∧
    (∀ {Γ : Ctx} {ps : List Nat} {n : Nat} {k : List KI} {st : St} (op : SOp) (as : List SA) (l : List SOper), goOps Γ ps n (e op as :: l) k st = goOut Γ ps n none (eval Γ st.ob 0 op (as.map st.get)) l k st) ∧
    (∀ {Γ : Ctx} {ps : List Nat} {n : Nat} {k : List KI} {st : St} (c : Nat) (d : Nat) (op : SOp) (as : List SA) (l : List SOper), goOps Γ ps n (g c true d op as :: l) k st = goIf (truth (st.slot c)) (goOut Γ ps n (some d) (eval Γ st.ob d op (as.map st.get)) l k st) (goOps Γ ps n l k { slot := upd st.slot d .undef, ob := st.ob })) ∧
    (∀ {Γ : Ctx} {ps : List Nat} {n : Nat} {k : List KI} {st : St} (c : Nat) (d : Nat) (op : SOp) (as : List SA) (l : List SOper), goOps Γ ps n (g c false d op as :: l) k st = goIf (truth (st.slot c)) (goOps Γ ps n l k { slot := upd st.slot d .undef, ob := st.ob }) (goOut Γ ps n (some d) (eval Γ st.ob d op (as.map st.get)) l k st)) ∧
    (∀ {Γ : Ctx} {ps : List Nat} {n : Nat} {k : List KI} {st : St} (watch live : List Nat) (T : List Nat), goT Γ ps n watch live [] T k st = endT Γ ps n watch live k (.normal, st, T)) ∧
    (∀ {Γ : Ctx} {ps : List Nat} {n : Nat} {k : List KI} {st : St} (watch live : List Nat) (T : List Nat) (d : Nat) (op : SOp) (as : List SA) (l : List SOper), goT Γ ps n watch live (o d op as :: l) T k st = goOutT Γ ps n watch live (some d) op (eval Γ st.ob d op (as.map st.get)) l T k st) ∧
    (∀ {Γ : Ctx} {ps : List Nat} {n : Nat} {k : List KI} {st : St} (live : List Nat) (T : List Nat), endT Γ ps n [] live k (.normal, st, T) = goSt Γ ps n k { slot := slotsOf (live.map fun n => (n, st.slot n)), ob := st.ob }) ∧
    (∀ {Γ : Ctx} {ps : List Nat} {n : Nat} {k : List KI} {st : St} (live : List Nat) (T : List Nat) (x : D), endT Γ ps n [] live k (.panic x, st, T) = resume Γ ps n k (.panic x, st.forget ps)) ∧
    (∀ {Γ : Ctx} {ps : List Nat} {n : Nat} (p : Ex × St), resume Γ ps n [] p = some p) ∧
    (∀ {Γ : Ctx} {ps : List Nat} {n : Nat} {k : List KI} {st : St} (x : Cd), resume Γ ps n (.c x :: k) (.normal, st) = go Γ ps n x k st) ∧
    (∀ {Γ : Ctx} {ps : List Nat} {n : Nat} {k : List KI} {st : St} (x : Cd), resume Γ ps n (.c x :: k) (.ret, st) = resume Γ ps n k (.ret, st)) ∧
    (∀ {Γ : Ctx} {ps : List Nat} {n : Nat} {k : List KI} {st : St} (x : Cd) (j : Nat), resume Γ ps n (.c x :: k) (.exit j, st) = resume Γ ps n k (.exit j, st)) ∧
    (∀ {Γ : Ctx} {ps : List Nat} {n : Nat} {k : List KI} {st : St} (x : Cd) (y : D), resume Γ ps n (.c x :: k) (.panic y, st) = resume Γ ps n k (.panic y, st)) ∧
    (∀ {Γ : Ctx} {ps : List Nat} {n : Nat} {k : List KI} {st : St} (id : Nat), resume Γ ps n (.b id :: k) (.normal, st) = resume Γ ps n k (.normal, st)) ∧
    (∀ {Γ : Ctx} {ps : List Nat} {n : Nat} {k : List KI} {st : St} (id : Nat), resume Γ ps n (.b id :: k) (.ret, st) = resume Γ ps n k (.ret, st)) ∧
    (∀ {Γ : Ctx} {ps : List Nat} {n : Nat} {k : List KI} {st : St} (id : Nat) (y : D), resume Γ ps n (.b id :: k) (.panic y, st) = resume Γ ps n k (.panic y, st)) ∧
    (∀ {Γ : Ctx} {ps : List Nat} {n : Nat} {k : List KI} {st : St} (live : List Nat), resume Γ ps n (.v live :: k) (.normal, st) = goSt Γ ps n k { slot := slotsOf (live.map fun n => (n, st.slot n)), ob := st.ob }) ∧
    (∀ {Γ : Ctx} {ps : List Nat} {n : Nat} {k : List KI} {st : St} (live : List Nat) (y : D), resume Γ ps n (.v live :: k) (.panic y, st) = resume Γ ps n k (.panic y, st)) :=
  ⟨by intros; first | rfl | apply go_skip,
    by intros; first | rfl | apply go_ret,
    by intros; first | rfl | apply go_exit,
    by intros; first | rfl | apply go_sq,
    by intros; first | rfl | apply go_block,
    by intros; first | rfl | apply go_cond,
    by intros; first | rfl | apply go_r,
    by intros; first | rfl | apply go_rd,
    by intros; first | rfl | apply go_loop,
    by intros; first | rfl | apply goOps_nil,
    by intros; first | rfl | apply goOps_o,
    by intros; first | rfl | apply goOps_e,
    by intros; first | rfl | apply goOps_gt,
    by intros; first | rfl | apply goOps_gf,
    by intros; first | rfl | apply goT_nil,
    by intros; first | rfl | apply goT_o,
    by intros; first | rfl | apply endT_normal0,
    by intros; first | rfl | apply endT_panic0,
    by intros; first | rfl | apply resume_nil,
    by intros; first | rfl | apply resume_c,
    by intros; first | rfl | apply resume_c_ret,
    by intros; first | rfl | apply resume_c_exit,
    by intros; first | rfl | apply resume_c_panic,
    by intros; first | rfl | apply resume_b,
    by intros; first | rfl | apply resume_b_ret,
    by intros; first | rfl | apply resume_b_panic,
    by intros; first | rfl | apply resume_v,
    by intros; first | rfl | apply resume_v_panic⟩

theorem goPost :
    (∀ {α : Type} {x y : Option α}, goIf (some true) x y = x) ∧
    (∀ {α : Type} {x y : Option α}, goIf (some false) x y = y) ∧
    (∀ (b : Bool), truth (.d (.bool b)) = some b) ∧
    (∀ {Γ : Ctx} {ps : List Nat} {n : Nat} {k : List KI} {l : List (Nat × A)} {ob : Nat → Ob}, goSt Γ ps n k ⟨slotsOf l, ob⟩ = resume Γ ps n k (.normal, ⟨slotsOf l, ob⟩)) ∧
    (∀ {Γ : Ctx} {ps : List Nat} {n : Nat} {k : List KI} {st : St} (d : Nat) (a : A) (l : List SOper), goOut Γ ps n (some d) (some (.val a [])) l k st = goOps Γ ps n l k { slot := upd st.slot d a, ob := st.ob }) ∧
    (∀ {Γ : Ctx} {ps : List Nat} {n : Nat} {k : List KI} {st : St} (d : Nat) (a : A) (u : Nat × Ob) (us : List (Nat × Ob)) (l : List SOper), goOut Γ ps n (some d) (some (.val a (u :: us))) l k st = goOps Γ ps n l k { slot := upd st.slot d a, ob := updAll st.ob (u :: us) }) ∧
    (∀ {Γ : Ctx} {ps : List Nat} {n : Nat} {k : List KI} {st : St} (a : A) (us : List (Nat × Ob)) (l : List SOper), goOut Γ ps n none (some (.val a us)) l k st = goOps Γ ps n l k { slot := st.slot, ob := updAll st.ob us }) ∧
    (∀ {Γ : Ctx} {ps : List Nat} {n : Nat} {k : List KI} {st : St} (d : Option Nat) (x : D) (us : List (Nat × Ob)) (l : List SOper), goOut Γ ps n d (some (.pan x us)) l k st = resume Γ ps n k (.panic x, { slot := st.slot, ob := updAll st.ob us })) ∧
    (∀ {Γ : Ctx} {ps : List Nat} {n : Nat} {k : List KI} {st : St} (watch live : List Nat) (T : List Nat) (d : Nat) (op : SOp) (a : A) (l : List SOper), goOutT Γ ps n watch live (some d) op (some (.val a [])) l T k st = goT Γ ps n watch live l T k { slot := upd st.slot d a, ob := st.ob }) ∧
    (∀ {Γ : Ctx} {ps : List Nat} {n : Nat} {k : List KI} {st : St} (watch live : List Nat) (T : List Nat) (d : Option Nat) (op : SOp) (x : D) (us : List (Nat × Ob)) (l : List SOper), goOutT Γ ps n watch live d op (some (.pan x us)) l T k st = endT Γ ps n watch live k (.panic x, { slot := st.slot, ob := updAll st.ob us }, T)) ∧
    (∀ {Γ : Ctx} {ps : List Nat} {n : Nat} {k : List KI} {st : St} (id j : Nat), resume Γ ps n (.b id :: k) (.exit j, st) = if j = id then resume Γ ps n k (.normal, st) else resume Γ ps n k (.exit j, st)) ∧
    (∀ {Γ : Ctx} {ps : List Nat} {n : Nat} {k : List KI} (p : Ex × St), goLoop Γ ps n (some p) k = resume Γ ps n k p) ∧
    (∀ {Γ : Ctx} {ps : List Nat} {n : Nat} {st : St} (keep : List Nat) (b : Cd) (m : Nat), goHead Γ ps n keep b m (some st) = goRound Γ ps n keep b m (go Γ ps n b [] st)) ∧
    (∀ {Γ : Ctx} {ps : List Nat} {n : Nat} {st : St} (keep : List Nat) (b : Cd) (m : Nat), goRound Γ ps n keep b m (some (.normal, st)) = loopF Γ ps n keep b m st) ∧
    (∀ {Γ : Ctx} {ps : List Nat} {n : Nat} {st : St} (keep : List Nat) (b : Cd) (m j : Nat), goRound Γ ps n keep b m (some (.exit j, st)) = some (.exit j, st)) ∧
    (∀ {Γ : Ctx} {ps : List Nat} {n : Nat} {st : St} (keep : List Nat) (b : Cd) (m : Nat), goRound Γ ps n keep b m (some (.ret, st)) = some (.ret, st)) ∧
    (∀ {Γ : Ctx} {ps : List Nat} {n : Nat} {st : St} (keep : List Nat) (b : Cd) (m : Nat) (y : D), goRound Γ ps n keep b m (some (.panic y, st)) = some (.panic y, st)) ∧
    (∀ (rs : List RV) (ps : List Nat) (c : Option Bool) (x y : Option (Ex × St)), finish rs ps (goIf c x y) = goIf c (finish rs ps x) (finish rs ps y)) ∧
    (∀ {Γ : Ctx} {ps : List Nat} {n : Nat} {k : List KI} (c : Option Bool) (x y : Option (Ex × St)), goLoop Γ ps n (goIf c x y) k = goIf c (goLoop Γ ps n x k) (goLoop Γ ps n y k)) ∧
    (∀ {Γ : Ctx} {ps : List Nat} {n : Nat} (keep : List Nat) (b : Cd) (m : Nat) (c : Option Bool) (x y : Option (Ex × St)), goRound Γ ps n keep b m (goIf c x y) = goIf c (goRound Γ ps n keep b m x) (goRound Γ ps n keep b m y)) ∧
    (∀ (rs : List RV) (ps : List Nat) (p : Ex × St), finish rs ps (some p) = leave ps rs p) ∧
    (∀ (s : Nat → A) (ob : Nat → Ob) (n : Nat), St.get ⟨s, ob⟩ (t n) = s n) ∧
    (∀ (st : St) (n : Int), st.get (i n) = .d (.int .i64 n)) ∧
    (∀ (st : St) (v : Bool), st.get (b v) = .d (.bool v)) ∧
    (∀ (st : St) (l : List UInt8), st.get (s l) = .d (sD l)) ∧
    (∀ (st : St), st.get n = .nil) ∧
    (∀ (st : St) (a : A), st.get (.k a) = a) ∧
    (∀ {α : Type} (f : Nat → α) (n m : Nat) (v : α), upd f n v m = if m = n then v else f m) ∧
    (∀ (i : Nat) (a : A) (r : List (Nat × A)) (n : Nat), slotsOf ((i, a) :: r) n = if n = i then a else slotsOf r n) ∧
    (∀ (i : Nat) (o : Ob) (r : List (Nat × Ob)) (n : Nat), obsOf ((i, o) :: r) n = if n = i then o else obsOf r n) ∧
    (∀ (n : Nat), obsOf [] n = {}) ∧
    (∀ (f : Nat → Ob), updAll f [] = f) ∧
    (∀ (f : Nat → Ob) (i : Nat) (o : Ob) (r : List (Nat × Ob)), updAll f ((i, o) :: r) = updAll (upd f i o) r) ∧
    (∀ {Γ : Ctx} {ob : Nat → Ob} {d : Nat} (a : A), eval Γ ob d .mv [a] = some (.val a [])) ∧
    (∀ {Γ : Ctx} {ob : Nat → Ob} {d : Nat} (c : Bool) (x y : A), eval Γ ob d .pick [.d (.bool c), x, y] = some (.val (if c then x else y) [])) ∧
    (∀ {Γ : Ctx} {ob : Nat → Ob} {d : Nat} (n : Nat) (cs : List D), eval Γ ob d (.len false) [.d (.lst n cs)] = some (.val (.d (.int .i64 n)) [])) ∧
    (∀ {Γ : Ctx} {ob : Nat → Ob} {d : Nat} (s : ByteArray), eval Γ ob d (.len true) [.d (.str s)] = some (.val (.d (.int .i64 s.size)) [])) ∧
    (∀ {Γ : Ctx} {ob : Nat → Ob} {d : Nat}, eval Γ ob d (.len false) [.nil] = some (.val (.d (.int .i64 0)) [])) ∧
    (∀ {Γ : Ctx} {ob : Nat → Ob} {d : Nat} (k : IntKind) (a b : Int), eval Γ ob d (.bin .add) [.d (.int k a), .d (.int k b)] = some (.val (.d (.int k (k.wrap (a + b)))) [])) ∧
    (∀ {Γ : Ctx} {ob : Nat → Ob} {d : Nat} (k : IntKind) (a b : Int), eval Γ ob d (.bin .sub) [.d (.int k a), .d (.int k b)] = some (.val (.d (.int k (k.wrap (a - b)))) [])) ∧
    (∀ {Γ : Ctx} {ob : Nat → Ob} {d : Nat} (k : IntKind) (a b : Int), eval Γ ob d (.bin .mul) [.d (.int k a), .d (.int k b)] = some (.val (.d (.int k (k.wrap (a * b)))) [])) ∧
    (∀ {Γ : Ctx} {ob : Nat → Ob} {d : Nat} (k : IntKind) (a b : Int), eval Γ ob d (.bin .eql) [.d (.int k a), .d (.int k b)] = some (.val (.d (.bool (decide (a = b)))) [])) ∧
    (∀ {Γ : Ctx} {ob : Nat → Ob} {d : Nat} (k : IntKind) (a b : Int), eval Γ ob d (.bin .neq) [.d (.int k a), .d (.int k b)] = some (.val (.d (.bool (!decide (a = b)))) [])) ∧
    (∀ {Γ : Ctx} {ob : Nat → Ob} {d : Nat} (k : IntKind) (a b : Int), eval Γ ob d (.bin .lss) [.d (.int k a), .d (.int k b)] = some (.val (.d (.bool (decide (a < b)))) [])) ∧
    (∀ {Γ : Ctx} {ob : Nat → Ob} {d : Nat} (k : IntKind) (a b : Int), eval Γ ob d (.bin .leq) [.d (.int k a), .d (.int k b)] = some (.val (.d (.bool (decide (a ≤ b)))) [])) ∧
    (∀ {Γ : Ctx} {ob : Nat → Ob} {d : Nat} (k : IntKind) (a b : Int), eval Γ ob d (.bin .gtr) [.d (.int k a), .d (.int k b)] = some (.val (.d (.bool (decide (b < a)))) [])) ∧
    (∀ {Γ : Ctx} {ob : Nat → Ob} {d : Nat} (k : IntKind) (a b : Int), eval Γ ob d (.bin .geq) [.d (.int k a), .d (.int k b)] = some (.val (.d (.bool (decide (b ≤ a)))) [])) ∧
    (∀ {Γ : Ctx} {ob : Nat → Ob} {d : Nat} (neg : Bool) (a b : Bool), eval Γ ob d (.beq neg) [.d (.bool a), .d (.bool b)] = some (.val (.d (.bool (if neg then !(a == b) else a == b))) [])) ∧
    (∀ {Γ : Ctx} {ob : Nat → Ob} {d : Nat} (b : Bool), eval Γ ob d .not [.d (.bool b)] = some (.val (.d (.bool !b)) [])) ∧
    (∀ {Γ : Ctx} {ob : Nat → Ob} {d : Nat} (k : IntKind) (a : Int), eval Γ ob d .neg [.d (.int k a)] = some (.val (.d (.int k (k.wrap (0 - a)))) [])) ∧
    (∀ {Γ : Ctx} {ob : Nat → Ob} {d : Nat} (x : D) (r : List D), eval Γ ob d (.ld none) [.cp (x :: r)] = some (.val (.d x) [])) ∧
    (∀ {Γ : Ctx} {ob : Nat → Ob} {d : Nat} (a : A), eval Γ ob d .box [a] = if (cellsOf a).all one then mk ob d [] (.box (cellsOf a)) else none) ∧
    (∀ {Γ : Ctx} {ob : Nat → Ob} {d : Nat} (cells : List A), eval Γ ob d (.alloc cells) [] = if cells.all one then mk ob d [] (.box cells) else none) ∧
    (∀ {ob : Nat → Ob} {d : Nat} (us : List (Nat × Ob)) (cells : List A), mk ob d us (.box cells) = some (.val (.adr (oid d 0) ((ob (oid d 0)).ver + 1) 0) (us ++ [(oid d 0, ⟨(ob (oid d 0)).ver + 1, .box cells, false⟩)]))) ∧
    (∀ {Γ : Ctx} {ob : Nat → Ob} {d : Nat} (id ver off : Nat), eval Γ ob d (.ld none) [.adr id ver off] = (boxAt ob id ver).bind fun cells => (cells[off]?).bind ok) ∧
    (∀ {Γ : Ctx} {ob : Nat → Ob} {d : Nat} (n id ver off : Nat), eval Γ ob d (.ld (some n)) [.adr id ver off] = (boxAt ob id ver).bind fun cells => if off + n ≤ cells.length then ok (.agg ((cells.drop off).take n)) else none) ∧
    (∀ {Γ : Ctx} {ob : Nat → Ob} {d : Nat} (off id ver o : Nat), eval Γ ob d (.fa off) [.adr id ver o] = (boxAt ob id ver).bind fun _ => ok (.adr id ver (o + off))) ∧
    (∀ {Γ : Ctx} {ob : Nat → Ob} {d : Nat} (n id ver off : Nat) (a : A), eval Γ ob d (.st n) [.adr id ver off, a] = (boxAt ob id ver).bind fun cells =>
      if off + n ≤ cells.length ∧ (cellsOf a).length = n ∧ (cellsOf a).all one then
        some (.val .undef [(id, { ob id with o := .box (cells.take off ++ cellsOf a ++ cells.drop (off + n)) })])
      else none) ∧
    (∀ (a : A), ok a = some (.val a [])) ∧
    (∀ {Γ : Ctx} {ob : Nat → Ob} {d : Nat} (f : FuncId) (as : List A), eval Γ ob d (.call f) as = doCall Γ ob d f as) ∧
    (∀ (x : D), cellsOf (.d x) = [.d x]) ∧
    (∀ (cs : List A), cellsOf (.agg cs) = cs) ∧
    (∀ (x : D), one (.d x) = true) ∧
    (one .nil = true) ∧
    (∀ (i v : Nat), one (.row i v) = true) ∧
    (∀ (i v o : Nat), one (.adr i v o) = true) ∧
    (∀ {α β : Type} (f : α → β), List.map f [] = []) ∧
    (∀ {α β : Type} (f : α → β) (a : α) (l : List α), List.map f (a :: l) = f a :: List.map f l) ∧
    (∀ {α : Type} (f : α → Bool), List.all [] f = true) ∧
    (∀ {α : Type} (f : α → Bool) (a : α) (l : List α), List.all (a :: l) f = (f a && List.all l f)) ∧
    (∀ {α : Type}, ([] : List α).length = 0) ∧
    (∀ {α : Type} (a : α) (l : List α), (a :: l).length = l.length + 1) ∧
    (∀ {α : Type} (l : List α), l.take 0 = []) ∧
    (∀ {α : Type} (a : α) (l : List α) (n : Nat), (a :: l).take (n + 1) = a :: l.take n) :=
  ⟨by intros; first | rfl | apply goIf_true,
    by intros; first | rfl | apply goIf_false,
    by intros; first | rfl | apply truth_b,
    by intros; first | rfl | apply goSt_done,
    by intros; first | rfl | apply goOut_val0,
    by intros; first | rfl | apply goOut_val,
    by intros; first | rfl | apply goOut_none,
    by intros; first | rfl | apply goOut_pan,
    by intros; first | rfl | apply goOutT_val0,
    by intros; first | rfl | apply goOutT_pan,
    by intros; first | rfl | apply resume_b_exit,
    by intros; first | rfl | apply goLoop_some,
    by intros; first | rfl | apply goHead_some,
    by intros; first | rfl | apply goRound_normal,
    by intros; first | rfl | apply goRound_exit,
    by intros; first | rfl | apply goRound_ret,
    by intros; first | rfl | apply goRound_panic,
    by intros; first | rfl | apply finish_goIf,
    by intros; first | rfl | apply goLoop_goIf,
    by intros; first | rfl | apply goRound_goIf,
    by intros; first | rfl | apply finish_some,
    by intros; first | rfl | apply get_t,
    by intros; first | rfl | apply get_i,
    by intros; first | rfl | apply get_b,
    by intros; first | rfl | apply get_s,
    by intros; first | rfl | apply get_n,
    by intros; first | rfl | apply get_k,
    by intros; first | rfl | apply upd_app,
    by intros; first | rfl | apply slotsOf_cons,
    by intros; first | rfl | apply obsOf_cons,
    by intros; first | rfl | apply obsOf_nil,
    by intros; first | rfl | apply updAll_nil,
    by intros; first | rfl | apply updAll_cons,
    by intros; first | rfl | apply ev_mv,
    by intros; first | rfl | apply ev_pick,
    by intros; first | rfl | apply ev_len_lst,
    by intros; first | rfl | apply ev_len_str,
    by intros; first | rfl | apply ev_len_nil,
    by intros; first | rfl | apply ev_add,
    by intros; first | rfl | apply ev_sub,
    by intros; first | rfl | apply ev_mul,
    by intros; first | rfl | apply ev_eql,
    by intros; first | rfl | apply ev_neq,
    by intros; first | rfl | apply ev_lss,
    by intros; first | rfl | apply ev_leq,
    by intros; first | rfl | apply ev_gtr,
    by intros; first | rfl | apply ev_geq,
    by intros; first | rfl | apply ev_beq,
    by intros; first | rfl | apply ev_not,
    by intros; first | rfl | apply ev_neg,
    by intros; first | rfl | apply ev_ld_cp,
    by intros; first | rfl | apply ev_box,
    by intros; first | rfl | apply ev_alloc,
    by intros; first | rfl | apply mk_box,
    by intros; first | rfl | apply ev_ld_adr,
    by intros; first | rfl | apply ev_ldN_adr,
    by intros; first | rfl | apply ev_fa_adr,
    by intros; first | rfl | apply ev_st_adr,
    by intros; first | rfl | apply ok_eq,
    by intros; first | rfl | apply ev_call,
    by intros; first | rfl | apply cellsOf_d,
    by intros; first | rfl | apply cellsOf_agg,
    by intros; first | rfl | apply one_d,
    by intros; first | rfl | apply one_nil,
    by intros; first | rfl | apply one_row,
    by intros; first | rfl | apply one_adr,
    by intros; first | rfl | apply map_nil,
    by intros; first | rfl | apply map_cons,
    by intros; first | rfl | apply all_nil,
    by intros; first | rfl | apply all_cons,
    by intros; first | rfl | apply length_nil,
    by intros; first | rfl | apply length_cons,
    by intros; first | rfl | apply take_zero,
    by intros; first | rfl | apply take_one⟩

end Go.Vm
