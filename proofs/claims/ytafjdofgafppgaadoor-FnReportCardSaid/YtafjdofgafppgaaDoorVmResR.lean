/- The rules for maps, builders, the ends of rows, shifts, bytes of texts. -/
import Derived.Test.YtafjdofgafppgaaDoorVmSim
set_option linter.unusedVariables false
set_option linter.unusedSectionVars false
set_option linter.unusedSimpArgs false
set_option linter.defProp false
namespace Go.Vm

def oRes (x : Ob) (ver : Nat) : Option (RK × D) := match x.o with
  | .res k y => if x.ver = ver then some (k, y) else none
  | _ => none
theorem resAt_o (ob : Nat → Ob) (id ver : Nat) : resAt ob id ver = oRes (ob id) ver := rfl
theorem oRes_R (v ver : Nat) (k : RK) (y : D) (lk : Bool) : oRes ⟨v, .res k y, lk⟩ ver = if v = ver then some (k, y) else none := rfl
theorem oX_R (m : Bool) (v id ver : Nat) (k : RK) (y : D) (lk : Bool) : oX m ⟨v, .res k y, lk⟩ id ver = if v = ver then some (.res k y, [], [id]) else none := rfl
theorem backO_R (v : Nat) (k : RK) (y z : D) (lk : Bool) : backO ⟨v, .res k y, lk⟩ [z] = some ⟨v, .res k z, false⟩ := rfl
theorem outPar_R (ob : Nat → Ob) (v : Nat) (k : RK) (y : D) (lk : Bool) : outPar ob ⟨v, .res k y, lk⟩ = if v = 1 then some ([y], []) else none := rfl
theorem kindAs_R (v : Nat) (k : RK) (y : D) (lk : Bool) : kindAs ⟨v, .res k y, lk⟩ (.res k) = true := by simp [kindAs]
theorem kindAs_box (v : Nat) (cs : List A) (lk : Bool) : kindAs ⟨v, .box cs, lk⟩ .box = true := rfl
theorem oOut_R (v id ver : Nat) (k : RK) (y : D) (lk : Bool) : oOut none ⟨v, .res k y, lk⟩ id ver = if v = ver then some (.res k y, [id]) else none := rfl
theorem stillO_R (ob : Nat → Ob) (k : RK) (y : D) : stillO ob (.res k y) = .res k y := rfl
section
variable {Γ : Ctx} {ob : Nat → Ob} {d : Nat}
theorem ofX_R (k : RK) (y : D) (j : Nat) : ofX ob d (.res k y) j = (.row (oid d j) ((ob (oid d j)).ver + 1), [(oid d j, ⟨(ob (oid d j)).ver + 1, .res k y, false⟩)], j + 1) := rfl
theorem parA_res (ms : List Nat) (k : RK) (y : D) (a : A) : parA ob ms (.res k y) a = a := by cases a <;> rfl
theorem plain_R (fl : TypeId → Bool) (k : RK) (y : D) : plainX fl (.res k y) = false := by simp only [plainX]
theorem renO_R (m : List (Nat × Nat)) (k : RK) (y : D) : renO m ob (.res k y) = .res k y := rfl
theorem renOk_R (m : List (Nat × Nat)) (k : RK) (y : D) : renOk m ob (.res k y) = true := rfl
def oFaR (q : RK × D) (off id ver : Nat) : Option Out := match q.1 with
  | .bld _ _ => if off = 0 then some (.val (.row id ver) []) else none
  | _ => none
theorem es_faR (off id ver : Nat) : eval Γ ob d (.fa off) [.row id ver] = (oRes (ob id) ver).bind fun q => oFaR q off id ver := rfl
theorem es_nilckR (id ver : Nat) : eval Γ ob d .nilck [.row id ver] = (oRes (ob id) ver).bind fun q => oFaR q 0 id ver := by
  simp only [eval, resAt_o]
  cases oRes (ob id) ver with
  | none => rfl
  | some q => obtain ⟨k, y⟩ := q; cases k <;> rfl
theorem oFaR_b (T e : TypeId) (y : D) (id ver : Nat) : oFaR (.bld T e, y) 0 id ver = some (.val (.row id ver) []) := rfl
theorem es_shr (k k' : IntKind) (a b : Int) : eval Γ ob d .shr [.d (.int k a), .d (.int k' b)] = if 0 ≤ b then some (.val (.d (.int k (a.fdiv (2 ^ min b.toNat k.bits)))) []) else none := rfl
/-- the bytes of a text, as numbers -/
def ofBytes (l : List UInt8) : List Int := l.map fun b => (b.toNat : Int)
theorem es_s2b (e : Nat) (l : List UInt8) : eval Γ ob d (.s2b e) [.d (sD l)] = some (.val (.d (lstT c8 (ofBytes l))) []) := by
  have : cellsT c8 (ofBytes l) = l.map fun b => D.int .u8 b.toNat := by
    induction l with
    | nil => rfl
    | cons x l ih => exact congrArg (D.int .u8 x.toNat :: ·) ih
  have h2 : lstT c8 (ofBytes l) = .lst l.length (l.map fun b => D.int .u8 b.toNat) := by unfold lstT; rw [this]; simp [ofBytes]
  rw [h2]; rfl
theorem es_mkB (T e : TypeId) : eval Γ ob d (.mkR (.bld T e)) [] = some (.val (.row (oid d 0) ((ob (oid d 0)).ver + 1)) [(oid d 0, ⟨(ob (oid d 0)).ver + 1, .res (.bld T e) (sD []), false⟩)]) := rfl
theorem es_mkM (t : TypeId) (n : Option Nat) : eval Γ ob d (.mkR (.map t n)) [] = some (.val (.row (oid d 0) ((ob (oid d 0)).ver + 1)) [(oid d 0, ⟨(ob (oid d 0)).ver + 1, .res (.map t n) (.lst 0 []), false⟩)]) := rfl
theorem es_mkM1 (t : TypeId) (n : Option Nat) (k : IntKind) (i : Int) : eval Γ ob d (.mkR (.map t n)) [.d (.int k i)] = some (.val (.row (oid d 0) ((ob (oid d 0)).ver + 1)) [(oid d 0, ⟨(ob (oid d 0)).ver + 1, .res (.map t n) (.lst 0 []), false⟩)]) := rfl
def oMget (q : RK × D) (t : TypeId) (kc : Nat) (n : Option Nat) (zero : List D) (wo : Bool) (k : D) : Option Out := if q.1 = .map t n ∧ keyOk kc k = true then (mcount n q.2).bind fun p => (mfind (msz n) k p.1 p.2).bind fun r =>
      (melem n (r.getD zero)).bind fun a => some (.val (if wo = true then .tup [a, .d (.bool r.isSome)] else a) []) else none
theorem es_mget (t : TypeId) (kc : Nat) (n : Option Nat) (zero : List D) (wo : Bool) (id ver : Nat) (k : D) : eval Γ ob d (.mget t kc n zero wo) [.row id ver, .d k] = (oRes (ob id) ver).bind fun q => oMget q t kc n zero wo k := rfl
def oMset (q : RK × D) (t : TypeId) (kc : Nat) (n : Option Nat) (xs : List D) (k : D) : Option D := if q.1 = .map t n ∧ keyOk kc k = true then (mcount n q.2).bind fun p => if xs.length = msz n then
      (mput (msz n) k xs p.1 p.2).bind fun z => some (.lst (z.length / (1 + msz n)) z) else none else none
theorem es_mset (t : TypeId) (kc : Nat) (n : Option Nat) (id ver : Nat) (k : D) (a : A) : eval Γ ob d (.mset t kc n) [.row id ver, .d k, a] = (oRes (ob id) ver).bind fun q => (snaps ob (cellsOf a)).bind fun s =>
    if elemIs n a = true then (oMset q t kc n s.1 k).bind fun y => some (.val .undef (leaks ob s.2 ++ [(id, ⟨ver, .res (.map t n) y, false⟩)])) else none := by
  simp only [eval, evMset, resAt_o, oMset]
  cases oRes (ob id) ver with
  | none => rfl
  | some q =>
    simp only [Option.bind_some]
    cases hs : snaps ob (cellsOf a) with
    | none => split <;> first | (cases mcount n q.2 <;> rfl) | rfl
    | some s =>
      simp only [Option.bind_some]
      by_cases h : q.1 = .map t n ∧ keyOk kc k = true
      · rw [if_pos h, if_pos h]
        cases mcount n q.2 with
        | none => simp only [Option.bind_none]; split <;> rfl
        | some p =>
          simp only [Option.bind_some]
          by_cases h1 : elemIs n a = true
          · by_cases h2 : s.1.length = msz n
            · rw [if_pos h1, if_pos ⟨h2, h1⟩, if_pos h2]
              cases mput (msz n) k s.1 p.1 p.2 <;> rfl
            · rw [if_pos h1, if_neg (fun q => h2 q.1), if_neg h2]; rfl
          · rw [if_neg h1, if_neg (fun q => h1 q.2)]
      · rw [if_neg h, if_neg h]; split <;> rfl
def oMlen (q : RK × D) : Option Int := match q.1 with
  | .map _ n => (mcount n q.2).bind fun p => some (p.1 : Int)
  | _ => none
theorem es_mlen (id ver : Nat) : eval Γ ob d .mlen [.row id ver] = (oRes (ob id) ver).bind fun q => (oMlen q).bind fun n => some (.val (.d (.int .i64 n)) []) := by
  simp only [eval, evMlen, resAt_o, oMlen]
  cases oRes (ob id) ver with
  | none => rfl
  | some q =>
    obtain ⟨k, y⟩ := q
    cases k with
    | bld _ _ => rfl
    | map t n => simp only [Option.bind_some]; cases mcount n y <;> rfl
theorem elemIs_d (x : D) : elemIs none (.d x) = true := rfl
theorem elemIs_agg (n : Nat) (cs : List A) : elemIs (some n) (.agg cs) = true := rfl
theorem elemIs_row (i v : Nat) : elemIs none (.row i v) = true := rfl
theorem eo_vws (s id ver : Nat) (k : IntKind) (l : Int) : eval Γ ob d (.vws s) [.row id ver, .d (.int k l)] = (oRow (ob id) ver).bind fun r => if r.2.1 = s ∧ 0 ≤ l ∧ l ≤ (r.2.2.1 : Int) then some (.val (.vw id ver l.toNat s) []) else none := rfl
/-- zeros behind a beginning -/
def oClr (r : Nat × Nat × Nat × Option Nat × List D) (z : List D) (lo s : Nat) : Option O := if r.2.1 = s ∧ lo ≤ r.2.2.1 ∧ z.length = s ∧ 0 < s then
    some (.row r.1 r.2.1 r.2.2.1 r.2.2.2.1 (r.2.2.2.2.take (lo * s) ++ (List.replicate (r.2.2.1 - lo) z).flatten)) else none
theorem eo_clr (z : List D) (id ver lo s : Nat) : eval Γ ob d (.clr z) [.vw id ver lo s] = (oRow (ob id) ver).bind fun r => if (ob id).leak = false then (oClr r z lo s).bind fun o => some (.val (.tup []) [(id, ⟨(ob id).ver, o, (ob id).leak⟩)]) else none := by
  simp only [eval, evClr, rowAt_o, oClr]
  cases oRow (ob id) ver with
  | none => rfl
  | some r =>
    obtain ⟨e, s', n, c, cells⟩ := r
    simp only [Option.bind_some]
    by_cases h : (ob id).leak = false
    · rw [if_pos h]
      by_cases h2 : s' = s ∧ lo ≤ n ∧ z.length = s ∧ 0 < s
      · obtain ⟨rfl, h3, h4, h5⟩ := h2
        rw [if_pos ⟨rfl, h, h3, h4, h5⟩, if_pos ⟨rfl, h3, h4, h5⟩]; rfl
      · rw [if_neg h2, if_neg (fun q => h2 ⟨q.1, q.2.2⟩)]; rfl
    · rw [if_neg h, if_neg (fun q => h q.2.1)]
theorem refs_vw (i v l s : Nat) : refs (.vw i v l s) = [i] := rfl
theorem renA_vw (m : List (Nat × Nat)) (i v l s : Nat) : renA m ob (.vw i v l s) = .undef := rfl
theorem scan_vw (base i v l s : Nat) : scan ob base (.vw i v l s) = [] := rfl
end
/-- the rows' views, typed -/
theorem oClr_T {α : Type} (c : Enc α) (e : Nat) (cap : Option Nat) (l : List α) (z : List D) (x : α) (hz : c.dec z = some x) (lo s : Nat) (hs : s = c.sz) (n : Nat) (hn : l.length = n) : oClr (e, c.sz, n, cap, cellsT c l) z lo s =
    if lo ≤ l.length then some (rowT c e cap (l.take lo ++ List.replicate (l.length - lo) x)) else none := by
  subst hs hn
  obtain rfl := c.dcd _ _ hz
  unfold oClr
  by_cases h : lo ≤ l.length
  · rw [if_pos ⟨rfl, h, c.len _, c.pos⟩, if_pos h]
    simp only [rowT, cellsT_app, cellsT_take, List.length_append, List.length_take, List.length_replicate]
    congr 2
    · omega
    · congr 1
      simp only [cellsT, List.flatMap_def, List.map_replicate]
  · rw [if_neg (fun q => h q.2.1), if_neg h]

section
variable {E : En} {k : List KJ} {st : St}
theorem gT_mkR (r : RK) (live : List Nat) (d : Nat) (a : A) (u : Nat × Ob) (us : List (Nat × Ob)) (L : List SOper) : gOutT E live (some d) (.mkR r) (some (.val a (u :: us))) L k st = gT E live L k { slot := upd st.slot d a, ob := updAll st.ob (u :: us) } := gOutT_val _ _ _ rfl _ _ _ _
theorem gT_s2b (e : Nat) (live : List Nat) (d : Nat) (a : A) (u : Nat × Ob) (us : List (Nat × Ob)) (L : List SOper) : gOutT E live (some d) (.s2b e) (some (.val a (u :: us))) L k st = gT E live L k { slot := upd st.slot d a, ob := updAll st.ob (u :: us) } := gOutT_val _ _ _ rfl _ _ _ _
theorem gT_clr (z : List D) (live : List Nat) (d : Nat) (a : A) (u : Nat × Ob) (us : List (Nat × Ob)) (L : List SOper) : gOutT E live (some d) (.clr z) (some (.val a (u :: us))) L k st = gT E live L k { slot := upd st.slot d a, ob := updAll st.ob (u :: us) } := gOutT_val _ _ _ rfl _ _ _ _
theorem gT_msetn (t kc : Nat) (n : Option Nat) (live : List Nat) (a : A) (us : List (Nat × Ob)) (L : List SOper) : gOutT E live none (.mset t kc n) (some (.val a us)) L k st = gT E live L k { slot := st.slot, ob := updAll st.ob us } := gOutT_none _ _ rfl _ _ _
theorem isSt_mkR (r : RK) : SOp.isSt (.mkR r) = false := rfl
theorem isSt_mset (t kc : Nat) (n : Option Nat) : SOp.isSt (.mset t kc n) = false := rfl
theorem isSt_s2b (e : Nat) : SOp.isSt (.s2b e) = false := rfl
theorem isSt_clr (z : List D) : SOp.isSt (.clr z) = false := rfl
theorem qt_mkR (r : RK) : SOp.quiet (.mkR r) = false := rfl
theorem qt_mset (t kc : Nat) (n : Option Nat) : SOp.quiet (.mset t kc n) = false := rfl
theorem qt_s2b (e : Nat) : SOp.quiet (.s2b e) = false := rfl
theorem qt_clr (z : List D) : SOp.quiet (.clr z) = false := rfl
end
/-! ## maps of a kind -/
/-- entries -/
def cP {α β : Type} (c : Enc α) (c' : Enc β) : Enc (α × β) where
  sz := c.sz + c'.sz
  enc p := c.enc p.1 ++ c'.enc p.2
  dec xs := (c.dec (xs.take c.sz)).bind fun a => (c'.dec (xs.drop c.sz)).bind fun b => some (a, b)
  len p := by simp [c.len, c'.len]
  pos := by have := c.pos; omega
  dcd := by
    intro xs x h
    obtain ⟨a, h1, h⟩ := Option.bind_eq_some_iff.mp h
    obtain ⟨b, h2, h⟩ := Option.bind_eq_some_iff.mp h
    cases h
    rw [← c.dcd _ _ h1, ← c'.dcd _ _ h2, List.take_append_drop]
  edc p := by
    have h1 : (c.enc p.1 ++ c'.enc p.2).take c.sz = c.enc p.1 := by rw [← c.len p.1]; exact List.take_left
    have h2 : (c.enc p.1 ++ c'.enc p.2).drop c.sz = c'.enc p.2 := by rw [← c.len p.1]; exact List.drop_left
    rw [h1, h2, c.edc, c'.edc]; rfl
def look {α β : Type} [DecidableEq α] (l : List (α × β)) (k : α) : Option β := match l with
  | [] => none
  | p :: l => if p.1 = k then some p.2 else look l k
def putM {α β : Type} [DecidableEq α] (l : List (α × β)) (k : α) (v : β) : List (α × β) := match l with
  | [] => [(k, v)]
  | p :: l => if p.1 = k then (k, v) :: l else p :: putM l k v
/-- keys of one cell -/
structure KeyE {α : Type} (c : Enc α) (kc : Nat) where
  d : α → D
  enc : ∀ a, c.enc a = [d a]
  ok : ∀ a, keyOk kc (d a) = true
  eq : ∀ [DecidableEq α] (a b : α), keyEq (d a) (d b) = some (decide (b = a))
theorem KeyE.sz {α : Type} {c : Enc α} {kc : Nat} (K : KeyE c kc) (a : α) : c.sz = 1 := by rw [← c.len a, K.enc]; rfl
section
variable {α β : Type} [DecidableEq α] {c : Enc α} {c' : Enc β} {kc : Nat} (K : KeyE c kc)
theorem cells_P (K : KeyE c kc) (p : α × β) (l : List (α × β)) : cellsT (cP c c') (p :: l) = K.d p.1 :: (c'.enc p.2 ++ cellsT (cP c c') l) := by
  simp [cellsT, cP, K.enc]
theorem mfind_T (k : α) : ∀ (l : List (α × β)), mfind c'.sz (K.d k) l.length (cellsT (cP c c') l) = some ((look l k).map c'.enc)
  | [] => rfl
  | p :: l => by
    have h1 : (c'.enc p.2 ++ cellsT (cP c c') l).take c'.sz = c'.enc p.2 := by rw [← c'.len p.2]; exact List.take_left
    have h2 : (c'.enc p.2 ++ cellsT (cP c c') l).drop c'.sz = cellsT (cP c c') l := by rw [← c'.len p.2]; exact List.drop_left
    rw [cells_P K, List.length_cons]
    simp only [mfind, K.eq, Option.bind_some, look, h1, h2, decide_eq_true_eq]
    split
    · rfl
    · exact mfind_T k l
theorem mput_T (k : α) (v : β) : ∀ (l : List (α × β)), mput c'.sz (K.d k) (c'.enc v) l.length (cellsT (cP c c') l) = some (cellsT (cP c c') (putM l k v))
  | [] => by
    rw [putM, cells_P K]
    simp [mput, cellsT]
  | p :: l => by
    have h1 : (c'.enc p.2 ++ cellsT (cP c c') l).take c'.sz = c'.enc p.2 := by rw [← c'.len p.2]; exact List.take_left
    have h2 : (c'.enc p.2 ++ cellsT (cP c c') l).drop c'.sz = cellsT (cP c c') l := by rw [← c'.len p.2]; exact List.drop_left
    rw [cells_P K, List.length_cons]
    simp only [mput, K.eq, Option.bind_some, h1, h2, decide_eq_true_eq, putM]
    split
    · rw [cells_P K]; rfl
    · rw [mput_T k v l, cells_P K]; rfl
theorem mcount_T (n : Option Nat) (hn : msz n = c'.sz) (hc : c.sz = 1) (l : List (α × β)) : mcount n (lstT (cP c c') l) = some (l.length, cellsT (cP c c') l) := by
  unfold mcount lstT
  have : (cellsT (cP c c') l).length = l.length * (1 + msz n) := by rw [cellsT_len, hn]; show l.length * (c.sz + c'.sz) = _; rw [hc]
  simp only
  rw [if_pos this]
theorem oMget_T (t : TypeId) (n : Option Nat) (hn : msz n = c'.sz) (hc : c.sz = 1) (zs : List D) (z : β) (hz : c'.dec zs = some z) (wo : Bool) (l : List (α × β)) (k : α) :
    oMget (.map t n, lstT (cP c c') l) t kc n zs wo (K.d k) = (melem n (c'.enc ((look l k).getD z))).bind fun a => some (.val (if wo = true then .tup [a, .d (.bool (look l k).isSome)] else a) []) := by
  obtain rfl := c'.dcd _ _ hz
  unfold oMget
  rw [if_pos ⟨rfl, K.ok k⟩]
  simp only [mcount_T n hn hc, Option.bind_some, hn, mfind_T K k l]
  cases look l k <;> rfl
theorem oMset_T (t : TypeId) (n : Option Nat) (hn : msz n = c'.sz) (hc : c.sz = 1) (xs : List D) (v : β) (hv : c'.dec xs = some v) (l : List (α × β)) (k : α) :
    oMset (.map t n, lstT (cP c c') l) t kc n xs (K.d k) = some (lstT (cP c c') (putM l k v)) := by
  obtain rfl := c'.dcd _ _ hv
  unfold oMset
  rw [if_pos ⟨rfl, K.ok k⟩]
  simp only [mcount_T n hn hc, Option.bind_some, hn, mput_T K k v l, c'.len, if_true]
  have : (cellsT (cP c c') (putM l k v)).length / (1 + c'.sz) = (putM l k v).length := by
    rw [cellsT_len]; show _ * (c.sz + c'.sz) / _ = _; rw [hc]; exact Nat.mul_div_cancel _ (by omega)
  rw [this]; rfl
theorem oMlen_T (t : TypeId) (n : Option Nat) (hn : msz n = c'.sz) (hc : c.sz = 1) (l : List (α × β)) : oMlen (.map t n, lstT (cP c c') l) = some (l.length : Int) := by
  unfold oMlen
  simp only [mcount_T n hn hc, Option.bind_some]
theorem mk0_T (t : TypeId) (n : Option Nat) : O.res (.map t n) (.lst 0 []) = .res (.map t n) (lstT (cP c c') []) := rfl
end
def kI : KeyE cI 0 := ⟨fun a => .int .i64 a, fun _ => rfl, fun _ => rfl, fun a b => by
  simp only [keyEq, if_true, Option.some.injEq]
  by_cases h : a = b
  · subst h; simp
  · simp [h, Ne.symm h]⟩
def kS : KeyE cS 1 := ⟨fun a => sD a, fun _ => rfl, fun _ => rfl, fun a b => by
  simp only [keyEq, sD, Option.some.injEq]
  by_cases h : a = b
  · subst h; simp
  · simp [h, Ne.symm h]⟩
theorem melem_1 (x : D) : melem none [x] = some (.d x) := rfl
theorem melem_n (n : Nat) (xs : List D) : melem (some n) xs = if xs.length = n then some (.agg (xs.map .d)) else none := rfl
theorem oMget_I {β : Type} {c' : Enc β} (t : TypeId) (n : Option Nat) (hn : msz n = c'.sz) (zs : List D) (z : β) (hz : c'.dec zs = some z) (wo : Bool) (l : List (Int × β)) (k : Int) :
    oMget (.map t n, lstT (cP cI c') l) t 0 n zs wo (.int .i64 k) = (melem n (c'.enc ((look l k).getD z))).bind fun a => some (.val (if wo = true then .tup [a, .d (.bool (look l k).isSome)] else a) []) := oMget_T kI t n hn rfl zs z hz wo l k
theorem oMset_I {β : Type} {c' : Enc β} (t : TypeId) (n : Option Nat) (hn : msz n = c'.sz) (l : List (Int × β)) (k : Int) (xs : List D) : oMset (.map t n, lstT (cP cI c') l) t 0 n xs (.int .i64 k) =
    (c'.dec xs).elim (oMset (.map t n, .lst l.length (cellsT (cP cI c') l)) t 0 n xs (.int .i64 k)) fun v => some (lstT (cP cI c') (putM l k v)) := by
  cases h : c'.dec xs with
  | none => rfl
  | some v => exact oMset_T kI t n hn rfl xs v h l k
theorem oMget_S {β : Type} {c' : Enc β} (t : TypeId) (n : Option Nat) (hn : msz n = c'.sz) (zs : List D) (z : β) (hz : c'.dec zs = some z) (wo : Bool) (l : List (List UInt8 × β)) (k : List UInt8) :
    oMget (.map t n, lstT (cP cS c') l) t 1 n zs wo (sD k) = (melem n (c'.enc ((look l k).getD z))).bind fun a => some (.val (if wo = true then .tup [a, .d (.bool (look l k).isSome)] else a) []) := oMget_T kS t n hn rfl zs z hz wo l k
theorem oMset_S {β : Type} {c' : Enc β} (t : TypeId) (n : Option Nat) (hn : msz n = c'.sz) (l : List (List UInt8 × β)) (k : List UInt8) (xs : List D) : oMset (.map t n, lstT (cP cS c') l) t 1 n xs (sD k) =
    (c'.dec xs).elim (oMset (.map t n, .lst l.length (cellsT (cP cS c') l)) t 1 n xs (sD k)) fun v => some (lstT (cP cS c') (putM l k v)) := by
  cases h : c'.dec xs with
  | none => rfl
  | some v => exact oMset_T kS t n hn rfl xs v h l k
/-- the rules of a map type: keyed by ints, by texts -/
def rMapI {β : Type} (c' : Enc β) (t : TypeId) (n : Option Nat) (hn : msz n = c'.sz) (zs : List D) (z : β) (hz : c'.dec zs = some z) :=
  And.intro (oMget_I (c' := c') t n hn zs z hz) <|
  And.intro (fun l k xs => oMset_I (c' := c') t n hn l k xs) <| And.intro (fun l => oMlen_T (c := cI) (c' := c') t n hn rfl l) (mk0_T (c := cI) (c' := c') t n)
def rMapS {β : Type} (c' : Enc β) (t : TypeId) (n : Option Nat) (hn : msz n = c'.sz) (zs : List D) (z : β) (hz : c'.dec zs = some z) :=
  And.intro (oMget_S (c' := c') t n hn zs z hz) <|
  And.intro (fun l k xs => oMset_S (c' := c') t n hn l k xs) <| And.intro (fun l => oMlen_T (c := cS) (c' := c') t n hn rfl l) (mk0_T (c := cS) (c' := c') t n)
end Go.Vm
