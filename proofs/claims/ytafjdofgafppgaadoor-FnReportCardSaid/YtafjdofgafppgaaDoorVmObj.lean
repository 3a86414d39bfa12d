/- The abstract machine's operations on the call's own objects, told by what the object is. -/
import Derived.Test.YtafjdofgafppgaaDoorVmTyp
set_option linter.unusedSectionVars false
set_option linter.unusedSimpArgs false
set_option linter.unusedVariables false
namespace Go.Vm

/-- there is room for so many elements of so many bytes -/
def room (b n : Nat) : Prop := n * b ≤ roomB ∧ n ≤ 9223372036854775807
instance (b n : Nat) : Decidable (room b n) := by unfold room; infer_instance
def roomS (n : Nat) : Prop := n ≤ 9223372036854775807
instance (n : Nat) : Decidable (roomS n) := by unfold roomS; infer_instance

def oBox (x : Ob) (ver : Nat) : Option (List A) := match x.o with
  | .box cells => if x.ver = ver then some cells else none
  | _ => none
def oRow (x : Ob) (ver : Nat) : Option (Nat × Nat × Nat × Option Nat × List D) := match x.o with
  | .row e s n c cells => if x.ver = ver then some (e, s, n, c, cells) else none
  | _ => none
theorem boxAt_o (ob : Nat → Ob) (id ver : Nat) : boxAt ob id ver = oBox (ob id) ver := rfl
theorem rowAt_o (ob : Nat → Ob) (id ver : Nat) : rowAt ob id ver = oRow (ob id) ver := rfl
theorem oBox_box (v ver : Nat) (cells : List A) (lk : Bool) : oBox ⟨v, .box cells, lk⟩ ver = if v = ver then some cells else none := rfl
def oSnap (x : Ob) (id ver : Nat) : Option (D × List Nat) := match x.o with
  | .row _ _ n _ cells => if x.ver = ver then some (.lst n cells, [id]) else none
  | _ => none
theorem snap_row (ob : Nat → Ob) (id ver : Nat) : snap ob (.row id ver) = oSnap (ob id) id ver := rfl
def oX (m : Bool) (x : Ob) (id ver : Nat) : Option (X × List Nat × List Nat) := match x.o with
  | .row e s n cap cells => if x.ver = ver then (if m then (if x.leak = false then some (.own e s n none cells false, [], [id]) else none) else some (.d (.lst n cells), [id], [])) else none
  | .res k y => if x.ver = ver then some (.res k y, [], [id]) else none
  | _ => none
theorem toX_row (m : Bool) (ob : Nat → Ob) (id ver : Nat) : toX m ob (.row id ver) = oX m (ob id) id ver := rfl
def oXB (x : Ob) (id ver off : Nat) : Option (X × List Nat × List Nat) := match x.o with
  | .box cells => if x.ver = ver ∧ off = 0 then (boxCells cells).map fun xs => (.box (xs.map .d), [], [id]) else none
  | _ => none
theorem toX_adr (m : Bool) (ob : Nat → Ob) (id ver off : Nat) : toX m ob (.adr id ver off) = oXB (ob id) id ver off := rfl
theorem oXB_box (v id ver off : Nat) (cells : List A) (lk : Bool) : oXB ⟨v, .box cells, lk⟩ id ver off = if v = ver ∧ off = 0 then (boxCells cells).map fun xs => (.box (xs.map .d), [], [id]) else none := rfl
def oOut (k : Option Nat) (x : Ob) (id ver : Nat) : Option (X × List Nat) := match x.o with
  | .row e s n c cells => if x.ver = ver then (match k with
      | some k => some (.par k, [])
      | none => some (.own e s n c cells x.leak, [id])) else none
  | .res q y => if x.ver = ver then (match k with
      | some _ => none
      | none => some (.res q y, [id])) else none
  | _ => none
@[congr] theorem oOut_congr {k k' : Option Nat} {x x' : Ob} {id ver : Nat} (h : k = k') (h' : x = x') : oOut k x id ver = oOut k' x' id ver := by rw [h, h']
theorem outX_row (ps : List Nat) (ob : Nat → Ob) (id ver : Nat) : outX ps ob (.row id ver) = oOut (parOf ps id) (ob id) id ver := by
  simp only [outX, oOut]
  cases (ob id).o <;> rfl
def oOutB (ps : List Nat) (ob : Nat → Ob) (x : Ob) (id ver off : Nat) : Option (X × List Nat) := match x.o with
  | .box cells => if x.ver = ver ∧ off = 0 then (outXs ps ob cells).bind fun y => if y.1.all flatX then some (.box y.1, y.2 ++ [id]) else none else none
  | _ => none
theorem outBox_adr (ps : List Nat) (ob : Nat → Ob) (id ver off : Nat) : outBox ps ob (.adr id ver off) = oOutB ps ob (ob id) id ver off := rfl
theorem oOutB_box (ps : List Nat) (ob : Nat → Ob) (v id ver off : Nat) (cells : List A) (lk : Bool) : oOutB ps ob ⟨v, .box cells, lk⟩ id ver off =
    if v = ver ∧ off = 0 then (outXs ps ob cells).bind fun y => if y.1.all flatX then some (.box y.1, y.2 ++ [id]) else none else none := rfl

section
variable {Γ : Ctx} {ob : Nat → Ob} {d : Nat} {α : Type} (c : Enc α)
theorem oRow_T (v ver e : Nat) (cap : Option Nat) (l : List α) (lk : Bool) : oRow ⟨v, rowT c e cap l, lk⟩ ver = if v = ver then some (e, c.sz, l.length, cap, cellsT c l) else none := rfl
theorem oSnap_T (v id ver e : Nat) (cap : Option Nat) (l : List α) (lk : Bool) : oSnap ⟨v, rowT c e cap l, lk⟩ id ver = if v = ver then some (lstT c l, [id]) else none := rfl
theorem oX_T (v id ver e : Nat) (cap : Option Nat) (l : List α) (lk : Bool) : oX false ⟨v, rowT c e cap l, lk⟩ id ver = if v = ver then some (.d (lstT c l), [id], []) else none := rfl
theorem oX_M (v id ver e : Nat) (cap : Option Nat) (l : List α) : oX true ⟨v, rowT c e cap l, false⟩ id ver = if v = ver then some (ownT c e none false l, [], [id]) else none := rfl
theorem oBack_T (v e : Nat) (cap : Option Nat) (l l' : List α) (lk : Bool) : backO ⟨v, rowT c e cap l, lk⟩ [lstT c l'] = some ⟨v, rowT c e cap l', false⟩ := rfl
theorem oBack_M (v e : Nat) (cap : Option Nat) (l l' : List α) (lk : Bool) : backO ⟨v, rowT c e cap l, lk⟩ [lstT c l', .bool true] = some ⟨v + 1, rowT c e none l', false⟩ := rfl
theorem outPar_T (v e : Nat) (cap : Option Nat) (l : List α) : outPar ob ⟨v, rowT c e cap l, false⟩ = if v = 1 then some ([lstT c l], []) else some ([lstT c l, .bool true], []) := by simp [outPar, rowT, lstT]
theorem kindAs_T (v e e' s : Nat) (cap : Option Nat) (l : List α) (lk : Bool) (hs : s = c.sz) : kindAs ⟨v, rowT c e cap l, lk⟩ (.row e' s) = (e == e') := by
  subst hs; simp [kindAs, rowT]
theorem oOut_T (v id ver e : Nat) (cap : Option Nat) (l : List α) (lk : Bool) : oOut none ⟨v, rowT c e cap l, lk⟩ id ver = if v = ver then some (ownT c e cap lk l, [id]) else none := rfl
theorem oOut_P (k v id ver e : Nat) (cap : Option Nat) (l : List α) (lk : Bool) : oOut (some k) ⟨v, rowT c e cap l, lk⟩ id ver = if v = ver then some (.par k, []) else none := rfl
theorem parA_T (ob : Nat → Ob) (ms : List Nat) (e : Nat) (cap : Option Nat) (lk : Bool) (l : List α) (a : A) : parA ob ms (ownT c e cap lk l) a = a := by cases a <;> rfl
theorem ofX_T (e : Nat) (cap : Option Nat) (lk : Bool) (l : List α) (j : Nat) : ofX ob d (ownT c e cap lk l) j =
    (.row (oid d j) ((ob (oid d j)).ver + 1), [(oid d j, ⟨(ob (oid d j)).ver + 1, rowT c e cap l, lk⟩)], j + 1) := rfl
theorem renO_T (m : List (Nat × Nat)) (e : Nat) (cap : Option Nat) (l : List α) : renO m ob (rowT c e cap l) = rowT c e none l := rfl
theorem renO_box (m : List (Nat × Nat)) (cells : List A) : renO m ob (.box cells) = .box (renAs m ob cells) := rfl
theorem renOk_T (m : List (Nat × Nat)) (e : Nat) (cap : Option Nat) (l : List α) : renOk m ob (rowT c e cap l) = true := rfl
theorem renOk_box (m : List (Nat × Nat)) (cells : List A) : renOk m ob (.box cells) = (renAs m ob cells).all one := rfl

theorem eo_ia (s id ver : Nat) (k : IntKind) (i : Int) : eval Γ ob d (.ia s) [.row id ver, .d (.int k i)] =
    (oRow (ob id) ver).bind fun r => if 0 ≤ i ∧ i < (r.2.2.1 : Int) then some (.val (.rad id ver (i.toNat * s)) []) else none := rfl
theorem eo_fa_rad (off id ver o : Nat) : eval Γ ob d (.fa off) [.rad id ver o] = (oRow (ob id) ver).bind fun _ => some (.val (.rad id ver (o + off)) []) := rfl
theorem eo_ld (id ver off : Nat) : eval Γ ob d (.ld none) [.rad id ver off] = (oRow (ob id) ver).bind fun r => (r.2.2.2.2[off]?).bind fun x => some (.val (.d x) []) := rfl
/-- a whole element of a row -/
def elemN (cells : List D) (off n : Nat) : Option (List D) := if off + n ≤ cells.length then some ((cells.drop off).take n) else none
theorem eo_ldN (n id ver off : Nat) : eval Γ ob d (.ld (some n)) [.rad id ver off] = (oRow (ob id) ver).bind fun r => (elemN r.2.2.2.2 off n).bind fun xs => some (.val (.agg (xs.map .d)) []) := by
  simp only [eval, evLdN, rowAt_o, elemN, ok]
  cases oRow (ob id) ver with
  | none => rfl
  | some r => simp only [Option.bind_some]; split <;> rfl
def stRow (r : Nat × Nat × Nat × Option Nat × List D) (off : Nat) (xs : List D) : Option O :=
  if off + xs.length ≤ r.2.2.2.2.length then some (.row r.1 r.2.1 r.2.2.1 r.2.2.2.1 (r.2.2.2.2.take off ++ xs ++ r.2.2.2.2.drop (off + xs.length))) else none
theorem offL_nil (id : Nat) : offL id [] = true := rfl
theorem offL_cons (id i : Nat) (r : List Nat) : offL id (i :: r) = if i = id then false else offL id r := rfl
theorem eo_st (n id ver off : Nat) (a : A) : eval Γ ob d (.st n) [.rad id ver off, a] = (oRow (ob id) ver).bind fun r => (snaps ob (cellsOf a)).bind fun p =>
    if (ob id).leak = false ∧ p.1.length = n ∧ offL id p.2 = true then (stRow r off p.1).bind fun o => some (.val .undef (leaks ob p.2 ++ [(id, ⟨(ob id).ver, o, (ob id).leak⟩)])) else none := by
  simp only [eval, evSt, rowAt_o, stRow]
  cases oRow (ob id) ver with
  | none => rfl
  | some r =>
    obtain ⟨e, s, m, cap, cells⟩ := r
    simp only [Option.bind_some]
    cases snaps ob (cellsOf a) with
    | none => rfl
    | some p =>
      obtain ⟨xs, ls⟩ := p
      simp only [Option.bind_some]
      by_cases h1 : (ob id).leak = false ∧ xs.length = n ∧ offL id ls = true
      · rw [if_pos h1]
        by_cases h2 : off + xs.length ≤ cells.length
        · rw [if_pos ⟨h1.1, by omega, h1.2.1, h1.2.2⟩, if_pos h2, h1.2.1]; rfl
        · rw [if_neg (fun q => h2 (by omega)), if_neg h2]; rfl
      · rw [if_neg h1, if_neg (fun q => h1 ⟨q.1, q.2.2.1, q.2.2.2⟩)]
theorem eo_len (id ver : Nat) : eval Γ ob d (.len false) [.row id ver] = (oRow (ob id) ver).bind fun r => some (.val (.d (.int .i64 r.2.2.1)) []) := rfl
theorem eo_cap (id ver : Nat) : eval Γ ob d .cap [.row id ver] = (oRow (ob id) ver).bind fun r => r.2.2.2.1.bind fun k => some (.val (.d (.int .i64 k)) []) := rfl
/-- what an append makes -/
def oApp (r : Nat × Nat × Nat × Option Nat × List D) (e size b : Nat) (x : D) : Option O := x.asLst.bind fun p =>
  if r.2.1 = size ∧ r.1 = e ∧ 0 < size ∧ p.2.length = p.1 * size ∧ (r.2.2.1 + p.1) * b ≤ roomB ∧ r.2.2.1 + p.1 ≤ 9223372036854775807 then
      some (.row e r.2.1 (r.2.2.1 + p.1) none (r.2.2.2.2 ++ p.2)) else none
theorem eo_app (e s b id ver : Nat) (x : A) : eval Γ ob d (.app e s b) [.row id ver, x] = (oRow (ob id) ver).bind fun r => (snap ob x).bind fun p => (oApp r e s b p.1).bind fun o =>
    some (.val (.row id (ver + 1)) [(id, ⟨ver + 1, o, (ob id).leak⟩)]) := by
  simp only [eval, evApp, rowAt_o, oApp]
  cases oRow (ob id) ver with
  | none => rfl
  | some r =>
    obtain ⟨e', s', m, cap, cells⟩ := r
    simp only [Option.bind_some]
    cases snap ob x with
    | none => rfl
    | some p =>
      obtain ⟨y, ls⟩ := p
      simp only [Option.bind_some]
      cases y.asLst with
      | none => rfl
      | some q =>
        obtain ⟨n, xs⟩ := q
        simp only [Option.bind_some]
        split <;> rename_i hc <;> first | (rw [hc.2.1]; rfl) | rfl
/-- what an append of zeros makes -/
def oAppZ (r : Nat × Nat × Nat × Option Nat × List D) (e size b : Nat) (z : List D) (k : Int) : Option O :=
  if r.2.1 = size ∧ r.1 = e ∧ 0 ≤ k ∧ z.length = size ∧ 0 < size ∧ (r.2.2.1 + k.toNat) * b ≤ roomB ∧ r.2.2.1 + k.toNat ≤ 9223372036854775807 then
      some (.row e r.2.1 (r.2.2.1 + k.toNat) none (r.2.2.2.2 ++ (List.replicate k.toNat z).flatten)) else none
theorem eo_appZ (e s b id ver : Nat) (z : List D) (q : IntKind) (k : Int) : eval Γ ob d (.appZ e s b z) [.row id ver, .d (.int q k)] = (oRow (ob id) ver).bind fun r => (oAppZ r e s b z k).bind fun o =>
    some (.val (.row id (ver + 1)) [(id, ⟨ver + 1, o, (ob id).leak⟩)]) := by
  simp only [eval, evAppZ, rowAt_o, oAppZ]
  cases oRow (ob id) ver with
  | none => rfl
  | some r =>
    obtain ⟨e', s', m, cap, cells⟩ := r
    simp only [Option.bind_some]
    split <;> rename_i hc <;> first | (rw [hc.2.1]; rfl) | rfl
/-- a row of zeros, of unknown room -/
def zeroRow0 (e s n : Nat) (z : List D) : O := .row e s n none (List.replicate n z).flatten
/-- a new row of zeros, or nothing -/
def zNew (id ver e s b : Nat) (z : List D) (k : Int) : Option Out := if 0 ≤ k ∧ z.length = s ∧ 0 < s ∧ k.toNat * b ≤ roomB ∧ k ≤ 9223372036854775807 then
    (if k = 0 then some (.val .nil []) else some (.val (.row id ver) [(id, ⟨ver, zeroRow0 e s k.toNat z, false⟩)])) else none
theorem eo_appZn (e s b : Nat) (z : List D) (q : IntKind) (k : Int) : eval Γ ob d (.appZ e s b z) [.nil, .d (.int q k)] = zNew (oid d 0) ((ob (oid d 0)).ver + 1) e s b z k := rfl
/-- a row that is shared is not given up -/
def cutIf (c : Bool) (x y : Option Out) : Option Out := match c with
  | true => x
  | false => y
@[congr] theorem cutIf_congr {c c' : Bool} {x y : Option Out} (h : c = c') : cutIf c x y = cutIf c' x y := by rw [h]
theorem cutIf_t (x y : Option Out) : cutIf true x y = x := rfl
theorem cutIf_f (x y : Option Out) : cutIf false x y = y := rfl
/-- what is left of a row that is cut -/
def oCut (r : Nat × Nat × Nat × Option Nat × List D) (s : Nat) (h : Int) : Option O :=
  if r.2.1 = s ∧ 0 ≤ h ∧ h ≤ r.2.2.1 then some (.row r.1 r.2.1 h.toNat r.2.2.2.1 (r.2.2.2.2.take (h.toNat * r.2.1))) else none
theorem eo_cut (s id ver : Nat) (q : IntKind) (h : Int) : eval Γ ob d (.cut s) [.row id ver, .d (.int q h)] = cutIf (ob id).leak (eval Γ ob d (.slc false s false true) [.row id ver, .d (.int q h)]) ((oRow (ob id) ver).bind fun r => (oCut r s h).bind fun o =>
    some (.val (.row id (ver + 1)) [(id, ⟨ver + 1, o, false⟩)])) := by
  have e1 : eval Γ ob d (.cut s) [.row id ver, .d (.int q h)] = if (ob id).leak = true then evSlc ob false s false true [.row id ver, .d (.int q h)] else (rowAt ob id ver).bind fun (e, s', n, c, cells) =>
        if s' = s ∧ 0 ≤ h ∧ h ≤ n then
          some (.val (.row id (ver + 1)) [(id, { ver := ver + 1, o := .row e s' h.toNat c (cells.take (h.toNat * s')), leak := false })])
        else none := rfl
  rw [e1]
  cases (ob id).leak with
  | true => rfl
  | false =>
    simp only [Bool.false_eq_true, if_false, rowAt_o, cutIf, oCut]
    cases oRow (ob id) ver with
    | none => rfl
    | some r =>
      obtain ⟨e', s', m, cap, cells⟩ := r
      simp only [Option.bind_some]
      split <;> rfl
theorem eo_cutd (s : Nat) (x : D) (b : A) : eval Γ ob d (.cut s) [.d x, b] = eval Γ ob d (.slc false s false true) [.d x, b] := by
  cases b <;> rfl
theorem eo_cutn (s : Nat) (q : IntKind) (h : Int) : eval Γ ob d (.cut s) [.nil, .d (.int q h)] = if h = 0 then some (.val .nil []) else none := rfl
theorem es_capn : eval Γ ob d .cap [.nil] = some (.val (.d (.int .i64 0)) []) := rfl
theorem es_snil_nil (g : Bool) : eval Γ ob d (.snil g) [.nil] = some (.val (.d (.bool !g)) []) := rfl
theorem es_seq (g : Bool) (ks : List Nat) (xs ys : List A) : eval Γ ob d (.seq g ks) [.agg xs, .agg ys] = (eqCells ks xs ys).bind fun b => some (.val (.d (.bool (if g then !b else b))) []) := rfl
omit Γ ob d in
theorem eqC_nil : eqCells [] [] [] = some true := rfl
omit Γ ob d in
theorem eqC_int (ks : List Nat) (k : IntKind) (a b : Int) (xs ys : List A) : eqCells (0 :: ks) (.d (.int k a) :: xs) (.d (.int k b) :: ys) = (eqCells ks xs ys).map fun r => decide (a = b) && r := by
  simp [eqCells, keyOk, keyEq]; rfl
omit Γ ob d in
theorem eqC_str (ks : List Nat) (a b : ByteArray) (xs ys : List A) : eqCells (1 :: ks) (.d (.str a) :: xs) (.d (.str b) :: ys) = (eqCells ks xs ys).map fun r => (a.data.toList == b.data.toList) && r := by
  simp only [eqCells, keyOk, keyEq, and_self, if_true, Option.bind_some]
omit Γ ob d in
theorem eqC_bool (ks : List Nat) (a b : Bool) (xs ys : List A) : eqCells (2 :: ks) (.d (.bool a) :: xs) (.d (.bool b) :: ys) = (eqCells ks xs ys).map fun r => (a == b) && r := by
  simp [eqCells, keyOk, keyEq]
theorem es_snil_S (g : Bool) (m : Nat) (cs : List D) : eval Γ ob d (.snil g) [.d (.lstS m cs)] = some (.val (.d (.bool g)) []) := rfl
def oSlc (r : Nat × Nat × Nat × Option Nat × List D) (s : Nat) (lo hi : Bool) (bs : List A) : Option D := if r.2.1 = s then
  (cutLo r.2.2.1 lo hi bs).bind fun (p : Nat × Nat) => some (.lst (p.2 - p.1) ((r.2.2.2.2.drop (p.1 * s)).take ((p.2 - p.1) * s))) else none
theorem eo_slc (s : Nat) (lo hi : Bool) (id ver : Nat) (bs : List A) : eval Γ ob d (.slc false s lo hi) (.row id ver :: bs) = (oRow (ob id) ver).bind fun r =>
    (oSlc r s lo hi bs).bind fun x => some (.val (.d x) (leaks ob [id])) := by
  simp only [eval, evSlc, rowAt_o, oSlc]
  cases oRow (ob id) ver with
  | none => rfl
  | some r =>
    obtain ⟨e', s', m, cap, cells⟩ := r
    simp only [Option.bind_some, Bool.false_eq_true, if_false]
    split
    · cases cutLo m lo hi bs <;> rfl
    · rfl

def oB2s (p : D × List Nat) : Option Out := match p.1 with
  | .lst n xs => if n = xs.length then (bytesOf xs).bind fun bs => some (.val (.d (.str ⟨bs.toArray⟩)) []) else none
  | _ => none
theorem eo_b2s (id ver : Nat) : eval Γ ob d .b2s [.row id ver] = (oSnap (ob id) id ver).bind oB2s := by
  simp only [eval, snap_row]
  cases oSnap (ob id) id ver with
  | none => rfl
  | some p => obtain ⟨x, l⟩ := p; cases x <;> rfl
theorem oB2s_8 (l : List Int) (ids : List Nat) : oB2s (lstT c8 l, ids) = some (.val (.d (sD (bytes8 l))) []) := by
  have h : (cellsT c8 l).length = l.length := by rw [cellsT_len]; exact Nat.mul_one _
  simp only [oB2s, lstT, h, if_true, bytesOf_8, Option.bind_some, sD]

/-! rows of a kind -/
theorem get_T (l : List α) (n o : Nat) (ho : o < c.sz) : (cellsT c l)[n * c.sz + o]? = (l[n]?).bind fun x => (c.enc x)[o]? := by
  cases h : l[n]? with
  | none =>
    have : l.length ≤ n := List.getElem?_eq_none_iff.mp h
    rw [List.getElem?_eq_none]
    · rfl
    · rw [cellsT_len]
      have := Nat.mul_le_mul_right c.sz this
      omega
  | some x =>
    rw [← List.getElem?_drop, cellsT_idx c h, List.getElem?_append_left (by rw [c.len]; exact ho)]; rfl
theorem elemN_T (l : List α) (n s : Nat) (hs : s = c.sz) : elemN (cellsT c l) (n * s) s = (l[n]?).map c.enc := by
  subst hs
  unfold elemN
  cases h : l[n]? with
  | none =>
    have : l.length ≤ n := List.getElem?_eq_none_iff.mp h
    rw [if_neg]
    · rfl
    · rw [cellsT_len]
      have := Nat.mul_le_mul_right c.sz this
      have := c.pos
      omega
  | some x =>
    have hn : n < l.length := by
      apply Classical.byContradiction
      intro hn
      rw [List.getElem?_eq_none (by omega)] at h; cases h
    have hm := Nat.mul_le_mul_right c.sz (show n + 1 ≤ l.length from hn)
    rw [Nat.succ_mul] at hm
    rw [if_pos (by rw [cellsT_len]; exact hm), cellsT_idx c h, List.take_append, List.take_of_length_le (by rw [c.len]; exact Nat.le_refl _), c.len]
    simp
theorem cellsT_set (l : List α) (n : Nat) (x : α) (h : n < l.length) : (cellsT c l).take (n * c.sz) ++ c.enc x ++ (cellsT c l).drop ((n + 1) * c.sz) = cellsT c (l.set n x) := by
  rw [cellsT_take, cellsT_drop, List.set_eq_take_append_cons_drop, if_pos h]
  simp [cellsT]
/-- an element is written -/
def setN (l : List α) (n : Nat) (x : α) : Option (List α) := if n < l.length then some (l.set n x) else none
theorem stRow_T (e : Nat) (cap : Option Nat) (l : List α) (n s : Nat) (xs : List D) (x : α) (hs : s = c.sz) (hd : c.dec xs = some x) :
    stRow (e, s, l.length, cap, cellsT c l) (n * s) xs = (setN l n x).map fun l' => rowT c e cap l' := by
  subst hs
  obtain rfl := c.dcd _ _ hd
  unfold stRow setN
  simp only [c.len]
  by_cases h : n < l.length
  · have hm := Nat.mul_le_mul_right c.sz (show n + 1 ≤ l.length from h)
    rw [if_pos (by rw [cellsT_len]; rw [Nat.succ_mul] at hm; exact hm), if_pos h]
    simp only [Option.map_some, rowT, List.length_set]
    rw [← cellsT_set c l n x h, Nat.succ_mul]
  · rw [if_neg, if_neg h]
    · rfl
    · rw [cellsT_len]
      have := Nat.mul_le_mul_right c.sz (show l.length ≤ n by omega)
      have := c.pos
      omega
theorem oApp_T (e : Nat) (cap : Option Nat) (l l' : List α) (s b : Nat) (hs : s = c.sz) :
    oApp (e, s, l.length, cap, cellsT c l) e s b (lstT c l') = if room b (l ++ l').length then some (rowT c e none (l ++ l')) else none := by
  subst hs
  unfold oApp lstT room
  simp only [D.asLst, Option.bind_some, List.length_append, cellsT_len, true_and, c.pos, rowT, cellsT_app]
/-- a list that is not nil -/
def lstST (l : List α) : D := .lstS l.length (cellsT c l)
theorem es_snil_T {Γ : Ctx} {ob : Nat → Ob} {d : Nat} (g : Bool) (l : List α) : eval Γ ob d (.snil g) [.d (lstST c l)] = some (.val (.d (.bool g)) []) := rfl
theorem oApp_TS (r : Nat × Nat × Nat × Option Nat × List D) (e s b : Nat) (l : List α) : oApp r e s b (lstST c l) = oApp r e s b (lstT c l) := rfl
theorem oAppZ_T (e : Nat) (cap : Option Nat) (l : List α) (s b : Nat) (hs : s = c.sz) (z : List D) (x : α) (hx : c.dec z = some x) (k : Int) :
    oAppZ (e, s, l.length, cap, cellsT c l) e s b z k = if 0 ≤ k ∧ room b (l ++ List.replicate k.toNat x).length then some (rowT c e none (l ++ List.replicate k.toNat x)) else none := by
  subst hs
  obtain rfl := c.dcd _ _ hx
  have h1 : (List.replicate k.toNat (c.enc x)).flatten = cellsT c (List.replicate k.toNat x) := by simp only [cellsT, List.flatMap_def, List.map_replicate]
  unfold oAppZ room
  simp only [c.len, true_and, c.pos, rowT, cellsT_app, h1, List.length_append, List.length_replicate]
theorem oCut_T (e : Nat) (cap : Option Nat) (l : List α) (s : Nat) (hs : s = c.sz) (h : Int) : oCut (e, s, l.length, cap, cellsT c l) s h = if 0 ≤ h ∧ h ≤ l.length then some (rowT c e cap (l.take h.toNat)) else none := by
  subst hs
  unfold oCut
  by_cases hh : 0 ≤ h ∧ h ≤ l.length
  · rw [if_pos ⟨rfl, hh.1, hh.2⟩, if_pos hh]
    simp only [rowT, List.length_take]
    rw [Nat.min_eq_left (by omega)]
    congr 2
    rw [cellsT_take]
  · rw [if_neg (fun q => hh ⟨q.2.1, q.2.2⟩), if_neg hh]
end

theorem oSlcT {α : Type} (c : Enc α) (l : List α) (lo hi : Int) : ((if 0 ≤ lo ∧ lo ≤ hi ∧ hi ≤ (l.length : Int) then some (lo.toNat, hi.toNat) else none).bind fun (p : Nat × Nat) =>
      some (D.lst (p.2 - p.1) (((cellsT c l).drop (p.1 * c.sz)).take ((p.2 - p.1) * c.sz)))) = (cut l lo hi).bind fun l' => some (lstT c l') := by
  unfold cut
  by_cases h : 0 ≤ lo ∧ lo ≤ hi ∧ hi ≤ l.length
  · rw [if_pos h, if_pos h]
    simp only [Option.bind_some, lstT]
    rw [cut_eq c l lo hi h, cut_len l lo hi h]
  · rw [if_neg h, if_neg h]; rfl
section
variable {α : Type} (c : Enc α)
theorem oSlc_2 (e s : Nat) (cap : Option Nat) (l : List α) (k k' : IntKind) (lo hi : Int) (hs : s = c.sz) : oSlc (e, s, l.length, cap, cellsT c l) s true true [.d (.int k lo), .d (.int k' hi)] = (cut l lo hi).bind fun l' => some (lstT c l') := by
  subst hs
  rw [← oSlcT c l lo hi, ← cutLo2 l.length k k' lo hi]; exact if_pos rfl
theorem oSlc_1 (e s : Nat) (cap : Option Nat) (l : List α) (k : IntKind) (lo : Int) (hs : s = c.sz) : oSlc (e, s, l.length, cap, cellsT c l) s true false [.d (.int k lo)] = (cut l lo l.length).bind fun l' => some (lstT c l') := by
  subst hs
  rw [← oSlcT c l lo l.length, ← cutLo1 l.length k lo]; exact if_pos rfl
theorem oSlc_0 (e s : Nat) (cap : Option Nat) (l : List α) (k : IntKind) (hi : Int) (hs : s = c.sz) : oSlc (e, s, l.length, cap, cellsT c l) s false true [.d (.int k hi)] = (cut l 0 hi).bind fun l' => some (lstT c l') := by
  subst hs
  rw [← oSlcT c l 0 hi, ← cutLo0 l.length k hi]; exact if_pos rfl
end

/-- what a slice literal makes -/
theorem row_nil {α : Type} (c : Enc α) (e : Nat) (cap : Option Nat) : O.row e c.sz 0 cap [] = rowT c e cap [] := rfl
theorem row_1 {α : Type} (c : Enc α) (e : Nat) (cap : Option Nat) (xs : List D) (x : α) (h : c.dec xs = some x) : O.row e c.sz 1 cap xs = rowT c e cap [x] := by
  obtain rfl := c.dcd _ _ h
  simp [rowT, cellsT]
theorem row_rep {α : Type} (c : Enc α) (e : Nat) (cap : Option Nat) (n : Nat) (xs : List D) (x : α) (h : c.dec xs = some x) :
    O.row e c.sz n cap (List.replicate n xs).flatten = rowT c e cap (List.replicate n x) := by
  obtain rfl := c.dcd _ _ h
  simp only [rowT, cellsT, List.length_replicate, List.flatMap_def, List.map_replicate]
end Go.Vm
