/- The abstract machine's operations on the call's own objects, told by what the object is. -/
import Derived.Test.YtejgcpankckdkaaVmTyp
set_option linter.unusedSectionVars false
set_option linter.unusedSimpArgs false
set_option linter.unusedVariables false
namespace Go.Vm

/-- there is room for so many elements of so many bytes -/
def room (b n : Nat) : Prop := n * b ≤ roomB ∧ n ≤ 9223372036854775807
instance (b n : Nat) : Decidable (room b n) := by unfold room; infer_instance
def roomS (n : Nat) : Prop := n ≤ 9223372036854775807
instance (n : Nat) : Decidable (roomS n) := by unfold roomS; infer_instance

def oBox (x : Ob) (ver : Nat) : Option (List A) := match x.o with
  | .box cells => if x.ver = ver then some cells else none
  | _ => none
def oRow (x : Ob) (ver : Nat) : Option (Nat × Nat × Nat × Option Nat × List D) := match x.o with
  | .row e s n c cells => if x.ver = ver then some (e, s, n, c, cells) else none
  | _ => none
theorem boxAt_o (ob : Nat → Ob) (id ver : Nat) : boxAt ob id ver = oBox (ob id) ver := rfl
theorem rowAt_o (ob : Nat → Ob) (id ver : Nat) : rowAt ob id ver = oRow (ob id) ver := rfl
theorem oBox_box (v ver : Nat) (cells : List A) (lk : Bool) : oBox ⟨v, .box cells, lk⟩ ver = if v = ver then some cells else none := rfl
def oSnap (x : Ob) (id ver : Nat) : Option (D × List Nat) := match x.o with
  | .row _ _ n _ cells => if x.ver = ver then some (.lst n cells, [id]) else none
  | _ => none
theorem snap_row (ob : Nat → Ob) (id ver : Nat) : snap ob (.row id ver) = oSnap (ob id) id ver := rfl
def oX (x : Ob) (id ver : Nat) : Option (X × List Nat × List Nat) := match x.o with
  | .row _ _ n _ cells => if x.ver = ver then some (.d (.lst n cells), [id], []) else none
  | _ => none
theorem toX_row (ob : Nat → Ob) (id ver : Nat) : toX ob (.row id ver) = oX (ob id) id ver := rfl
def oXB (x : Ob) (id ver off : Nat) : Option (X × List Nat × List Nat) := match x.o with
  | .box cells => if x.ver = ver ∧ off = 0 then (boxCells cells).map fun xs => (.box (xs.map .d), [], [id]) else none
  | _ => none
theorem toX_adr (ob : Nat → Ob) (id ver off : Nat) : toX ob (.adr id ver off) = oXB (ob id) id ver off := rfl
theorem oXB_box (v id ver off : Nat) (cells : List A) (lk : Bool) : oXB ⟨v, .box cells, lk⟩ id ver off = if v = ver ∧ off = 0 then (boxCells cells).map fun xs => (.box (xs.map .d), [], [id]) else none := rfl
def oOut (x : Ob) (id ver : Nat) : Option (X × List Nat) := match x.o with
  | .row e s n c cells => if x.ver = ver then some (.own e s n c cells x.leak, [id]) else none
  | _ => none
theorem outX_row (ob : Nat → Ob) (id ver : Nat) : outX ob (.row id ver) = oOut (ob id) id ver := rfl
def oOutB (ob : Nat → Ob) (x : Ob) (id ver off : Nat) : Option (X × List Nat) := match x.o with
  | .box cells => if x.ver = ver ∧ off = 0 then (outXs ob cells).bind fun y => if y.1.all flatX then some (.box y.1, y.2 ++ [id]) else none else none
  | _ => none
theorem outBox_adr (ob : Nat → Ob) (id ver off : Nat) : outBox ob (.adr id ver off) = oOutB ob (ob id) id ver off := rfl
theorem oOutB_box (ob : Nat → Ob) (v id ver off : Nat) (cells : List A) (lk : Bool) : oOutB ob ⟨v, .box cells, lk⟩ id ver off =
    if v = ver ∧ off = 0 then (outXs ob cells).bind fun y => if y.1.all flatX then some (.box y.1, y.2 ++ [id]) else none else none := rfl

section
variable {Γ : Ctx} {ob : Nat → Ob} {d : Nat} {α : Type} (c : Enc α)
theorem oRow_T (v ver e : Nat) (cap : Option Nat) (l : List α) (lk : Bool) : oRow ⟨v, rowT c e cap l, lk⟩ ver = if v = ver then some (e, c.sz, l.length, cap, cellsT c l) else none := rfl
theorem oSnap_T (v id ver e : Nat) (cap : Option Nat) (l : List α) (lk : Bool) : oSnap ⟨v, rowT c e cap l, lk⟩ id ver = if v = ver then some (lstT c l, [id]) else none := rfl
theorem oX_T (v id ver e : Nat) (cap : Option Nat) (l : List α) (lk : Bool) : oX ⟨v, rowT c e cap l, lk⟩ id ver = if v = ver then some (.d (lstT c l), [id], []) else none := rfl
theorem oOut_T (v id ver e : Nat) (cap : Option Nat) (l : List α) (lk : Bool) : oOut ⟨v, rowT c e cap l, lk⟩ id ver = if v = ver then some (ownT c e cap lk l, [id]) else none := rfl
theorem ofX_T (e : Nat) (cap : Option Nat) (lk : Bool) (l : List α) (j : Nat) : ofX ob d (ownT c e cap lk l) j =
    (.row (oid d j) ((ob (oid d j)).ver + 1), [(oid d j, ⟨(ob (oid d j)).ver + 1, rowT c e cap l, lk⟩)], j + 1) := rfl
theorem renO_T (m : List (Nat × Nat)) (e : Nat) (cap : Option Nat) (l : List α) : renO m ob (rowT c e cap l) = rowT c e none l := rfl
theorem renO_box (m : List (Nat × Nat)) (cells : List A) : renO m ob (.box cells) = .box (renAs m ob cells) := rfl
theorem renOk_T (m : List (Nat × Nat)) (e : Nat) (cap : Option Nat) (l : List α) : renOk m ob (rowT c e cap l) = true := rfl
theorem renOk_box (m : List (Nat × Nat)) (cells : List A) : renOk m ob (.box cells) = (renAs m ob cells).all one := rfl

theorem eo_ia (s id ver : Nat) (k : IntKind) (i : Int) : eval Γ ob d (.ia s) [.row id ver, .d (.int k i)] =
    (oRow (ob id) ver).bind fun r => if 0 ≤ i ∧ i < (r.2.2.1 : Int) then some (.val (.rad id ver (i.toNat * s)) []) else none := rfl
theorem eo_fa_rad (off id ver o : Nat) : eval Γ ob d (.fa off) [.rad id ver o] = (oRow (ob id) ver).bind fun _ => some (.val (.rad id ver (o + off)) []) := rfl
theorem eo_ld (id ver off : Nat) : eval Γ ob d (.ld none) [.rad id ver off] = (oRow (ob id) ver).bind fun r => (r.2.2.2.2[off]?).bind fun x => some (.val (.d x) []) := rfl
/-- a whole element of a row -/
def elemN (cells : List D) (off n : Nat) : Option (List D) := if off + n ≤ cells.length then some ((cells.drop off).take n) else none
theorem eo_ldN (n id ver off : Nat) : eval Γ ob d (.ld (some n)) [.rad id ver off] = (oRow (ob id) ver).bind fun r => (elemN r.2.2.2.2 off n).bind fun xs => some (.val (.agg (xs.map .d)) []) := by
  simp only [eval, evLdN, rowAt_o, elemN, ok]
  cases oRow (ob id) ver with
  | none => rfl
  | some r => simp only [Option.bind_some]; split <;> rfl
def stRow (r : Nat × Nat × Nat × Option Nat × List D) (off : Nat) (xs : List D) : Option O :=
  if off + xs.length ≤ r.2.2.2.2.length then some (.row r.1 r.2.1 r.2.2.1 r.2.2.2.1 (r.2.2.2.2.take off ++ xs ++ r.2.2.2.2.drop (off + xs.length))) else none
theorem eo_st (n id ver off : Nat) (a : A) : eval Γ ob d (.st n) [.rad id ver off, a] = (oRow (ob id) ver).bind fun r => (snaps ob (cellsOf a)).bind fun p =>
    if (ob id).leak = false ∧ p.1.length = n ∧ p.2 = [] then (stRow r off p.1).bind fun o => some (.val .undef [(id, ⟨(ob id).ver, o, (ob id).leak⟩)]) else none := by
  simp only [eval, evSt, rowAt_o, stRow]
  cases oRow (ob id) ver with
  | none => rfl
  | some r =>
    obtain ⟨e, s, m, cap, cells⟩ := r
    simp only [Option.bind_some]
    cases snaps ob (cellsOf a) with
    | none => rfl
    | some p =>
      obtain ⟨xs, ls⟩ := p
      simp only [Option.bind_some]
      by_cases h1 : (ob id).leak = false ∧ xs.length = n ∧ ls = []
      · rw [if_pos h1]
        by_cases h2 : off + xs.length ≤ cells.length
        · rw [if_pos ⟨h1.1, by omega, h1.2.1, h1.2.2⟩, if_pos h2, h1.2.1]; rfl
        · rw [if_neg (fun q => h2 (by omega)), if_neg h2]; rfl
      · rw [if_neg h1, if_neg (fun q => h1 ⟨q.1, q.2.2.1, q.2.2.2⟩)]
theorem eo_len (id ver : Nat) : eval Γ ob d (.len false) [.row id ver] = (oRow (ob id) ver).bind fun r => some (.val (.d (.int .i64 r.2.2.1)) []) := rfl
theorem eo_cap (id ver : Nat) : eval Γ ob d .cap [.row id ver] = (oRow (ob id) ver).bind fun r => r.2.2.2.1.bind fun k => some (.val (.d (.int .i64 k)) []) := rfl
/-- what an append makes -/
def oApp (r : Nat × Nat × Nat × Option Nat × List D) (e size b : Nat) (x : D) : Option O := match x with
  | .lst m xs => if r.2.1 = size ∧ r.1 = e ∧ 0 < size ∧ xs.length = m * size ∧ (r.2.2.1 + m) * b ≤ roomB ∧ r.2.2.1 + m ≤ 9223372036854775807 then
      some (.row e r.2.1 (r.2.2.1 + m) none (r.2.2.2.2 ++ xs)) else none
  | _ => none
theorem eo_app (e s b id ver : Nat) (x : A) : eval Γ ob d (.app e s b) [.row id ver, x] = (oRow (ob id) ver).bind fun r => (snap ob x).bind fun p => (oApp r e s b p.1).bind fun o =>
    some (.val (.row id (ver + 1)) [(id, ⟨ver + 1, o, (ob id).leak⟩)]) := by
  simp only [eval, evApp, rowAt_o, oApp]
  cases oRow (ob id) ver with
  | none => rfl
  | some r =>
    obtain ⟨e', s', m, cap, cells⟩ := r
    simp only [Option.bind_some]
    cases snap ob x with
    | none => rfl
    | some p =>
      obtain ⟨y, ls⟩ := p
      simp only [Option.bind_some]
      cases y <;> first | rfl | (simp only; split <;> rename_i hc <;> first | (rw [hc.2.1]; rfl) | rfl)
def oSlc (r : Nat × Nat × Nat × Option Nat × List D) (s : Nat) (lo hi : Bool) (bs : List A) : Option D := if r.2.1 = s then
  (cutLo r.2.2.1 lo hi bs).bind fun (p : Nat × Nat) => some (.lst (p.2 - p.1) ((r.2.2.2.2.drop (p.1 * s)).take ((p.2 - p.1) * s))) else none
theorem eo_slc (s : Nat) (lo hi : Bool) (id ver : Nat) (bs : List A) : eval Γ ob d (.slc false s lo hi) (.row id ver :: bs) = (oRow (ob id) ver).bind fun r =>
    (oSlc r s lo hi bs).bind fun x => some (.val (.d x) (leaks ob [id])) := by
  simp only [eval, evSlc, rowAt_o, oSlc]
  cases oRow (ob id) ver with
  | none => rfl
  | some r =>
    obtain ⟨e', s', m, cap, cells⟩ := r
    simp only [Option.bind_some, Bool.false_eq_true, if_false]
    split
    · cases cutLo m lo hi bs <;> rfl
    · rfl

/-! rows of a kind -/
theorem get_T (l : List α) (n o : Nat) (ho : o < c.sz) : (cellsT c l)[n * c.sz + o]? = (l[n]?).bind fun x => (c.enc x)[o]? := by
  cases h : l[n]? with
  | none =>
    have : l.length ≤ n := List.getElem?_eq_none_iff.mp h
    rw [List.getElem?_eq_none]
    · rfl
    · rw [cellsT_len]
      have := Nat.mul_le_mul_right c.sz this
      omega
  | some x =>
    rw [← List.getElem?_drop, cellsT_idx c h, List.getElem?_append_left (by rw [c.len]; exact ho)]; rfl
theorem elemN_T (l : List α) (n s : Nat) (hs : s = c.sz) : elemN (cellsT c l) (n * s) s = (l[n]?).map c.enc := by
  subst hs
  unfold elemN
  cases h : l[n]? with
  | none =>
    have : l.length ≤ n := List.getElem?_eq_none_iff.mp h
    rw [if_neg]
    · rfl
    · rw [cellsT_len]
      have := Nat.mul_le_mul_right c.sz this
      have := c.pos
      omega
  | some x =>
    have hn : n < l.length := by
      apply Classical.byContradiction
      intro hn
      rw [List.getElem?_eq_none (by omega)] at h; cases h
    have hm := Nat.mul_le_mul_right c.sz (show n + 1 ≤ l.length from hn)
    rw [Nat.succ_mul] at hm
    rw [if_pos (by rw [cellsT_len]; exact hm), cellsT_idx c h, List.take_append, List.take_of_length_le (by rw [c.len]; exact Nat.le_refl _), c.len]
    simp
theorem cellsT_set (l : List α) (n : Nat) (x : α) (h : n < l.length) : (cellsT c l).take (n * c.sz) ++ c.enc x ++ (cellsT c l).drop ((n + 1) * c.sz) = cellsT c (l.set n x) := by
  rw [cellsT_take, cellsT_drop, List.set_eq_take_append_cons_drop, if_pos h]
  simp [cellsT]
/-- an element is written -/
def setN (l : List α) (n : Nat) (x : α) : Option (List α) := if n < l.length then some (l.set n x) else none
theorem stRow_T (e : Nat) (cap : Option Nat) (l : List α) (n s : Nat) (xs : List D) (x : α) (hs : s = c.sz) (hd : c.dec xs = some x) :
    stRow (e, s, l.length, cap, cellsT c l) (n * s) xs = (setN l n x).map fun l' => rowT c e cap l' := by
  subst hs
  obtain rfl := c.dcd _ _ hd
  unfold stRow setN
  simp only [c.len]
  by_cases h : n < l.length
  · have hm := Nat.mul_le_mul_right c.sz (show n + 1 ≤ l.length from h)
    rw [if_pos (by rw [cellsT_len]; rw [Nat.succ_mul] at hm; exact hm), if_pos h]
    simp only [Option.map_some, rowT, List.length_set]
    rw [← cellsT_set c l n x h, Nat.succ_mul]
  · rw [if_neg, if_neg h]
    · rfl
    · rw [cellsT_len]
      have := Nat.mul_le_mul_right c.sz (show l.length ≤ n by omega)
      have := c.pos
      omega
theorem oApp_T (e : Nat) (cap : Option Nat) (l l' : List α) (s b : Nat) (hs : s = c.sz) :
    oApp (e, s, l.length, cap, cellsT c l) e s b (lstT c l') = if room b (l ++ l').length then some (rowT c e none (l ++ l')) else none := by
  subst hs
  unfold oApp lstT room
  simp only [List.length_append, cellsT_len, true_and, c.pos, rowT, cellsT_app]
end

theorem oSlcT {α : Type} (c : Enc α) (l : List α) (lo hi : Int) : ((if 0 ≤ lo ∧ lo ≤ hi ∧ hi ≤ (l.length : Int) then some (lo.toNat, hi.toNat) else none).bind fun (p : Nat × Nat) =>
      some (D.lst (p.2 - p.1) (((cellsT c l).drop (p.1 * c.sz)).take ((p.2 - p.1) * c.sz)))) = (cut l lo hi).bind fun l' => some (lstT c l') := by
  unfold cut
  by_cases h : 0 ≤ lo ∧ lo ≤ hi ∧ hi ≤ l.length
  · rw [if_pos h, if_pos h]
    simp only [Option.bind_some, lstT]
    rw [cut_eq c l lo hi h, cut_len l lo hi h]
  · rw [if_neg h, if_neg h]; rfl
section
variable {α : Type} (c : Enc α)
theorem oSlc_2 (e s : Nat) (cap : Option Nat) (l : List α) (k k' : IntKind) (lo hi : Int) (hs : s = c.sz) : oSlc (e, s, l.length, cap, cellsT c l) s true true [.d (.int k lo), .d (.int k' hi)] = (cut l lo hi).bind fun l' => some (lstT c l') := by
  subst hs
  rw [← oSlcT c l lo hi, ← cutLo2 l.length k k' lo hi]; exact if_pos rfl
theorem oSlc_1 (e s : Nat) (cap : Option Nat) (l : List α) (k : IntKind) (lo : Int) (hs : s = c.sz) : oSlc (e, s, l.length, cap, cellsT c l) s true false [.d (.int k lo)] = (cut l lo l.length).bind fun l' => some (lstT c l') := by
  subst hs
  rw [← oSlcT c l lo l.length, ← cutLo1 l.length k lo]; exact if_pos rfl
theorem oSlc_0 (e s : Nat) (cap : Option Nat) (l : List α) (k : IntKind) (hi : Int) (hs : s = c.sz) : oSlc (e, s, l.length, cap, cellsT c l) s false true [.d (.int k hi)] = (cut l 0 hi).bind fun l' => some (lstT c l') := by
  subst hs
  rw [← oSlcT c l 0 hi, ← cutLo0 l.length k hi]; exact if_pos rfl
end

/-- what a slice literal makes -/
theorem row_nil {α : Type} (c : Enc α) (e : Nat) (cap : Option Nat) : O.row e c.sz 0 cap [] = rowT c e cap [] := rfl
theorem row_1 {α : Type} (c : Enc α) (e : Nat) (cap : Option Nat) (xs : List D) (x : α) (h : c.dec xs = some x) : O.row e c.sz 1 cap xs = rowT c e cap [x] := by
  obtain rfl := c.dcd _ _ h
  simp [rowT, cellsT]
theorem row_rep {α : Type} (c : Enc α) (e : Nat) (cap : Option Nat) (n : Nat) (xs : List D) (x : α) (h : c.dec xs = some x) :
    O.row e c.sz n cap (List.replicate n xs).flatten = rowT c e cap (List.replicate n x) := by
  obtain rfl := c.dcd _ _ h
  simp only [rowT, cellsT, List.length_replicate, List.flatMap_def, List.map_replicate]
end Go.Vm
