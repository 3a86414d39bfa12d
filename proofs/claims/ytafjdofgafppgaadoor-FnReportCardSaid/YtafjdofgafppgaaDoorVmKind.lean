/- The rules for lists of one kind, bundled. -/
import Derived.Test.YtafjdofgafppgaaDoorVmRul
set_option linter.unusedVariables false
set_option linter.unusedSectionVars false
set_option linter.unusedSimpArgs false
set_option linter.defProp false
namespace Go.Vm

def stRow0 := stRow
@[congr] theorem gH_congr {E : En} {keep : List Nat} {b : Cd} {k : List KJ} {m : Nat} {st st' : St} (h : st = st') : gH E keep b k m st = gH E keep b k m st' := by rw [h]
theorem G_unf (c c' : Cd) (h : c = c') {E : En} {k : List KJ} {st : St} : G E c k st = G E c' k st := by rw [h]
@[congr] theorem G_congr {E : En} {c c' : Cd} {k : List KJ} {st : St} (h : c = c') : G E c k st = G E c' k st := by rw [h]
section
variable {α : Type} (c : Enc α) (n : Nat) (h : n = c.sz)
theorem k_elemN (l : List α) (m : Nat) : n = c.sz → elemN (cellsT c l) (m * n) n = (l[m]?).bind fun x => some (c.enc x) := by
  intro h
  rw [elemN_T c l m n h]; cases l[m]? <;> rfl
/-- a part of an element is written -/
def setAt (cells : List D) (o : Nat) (xs : List D) : List D := cells.take o ++ xs ++ cells.drop (o + xs.length)
theorem stRow_part (e : Nat) (cap : Option Nat) (l : List α) (m o : Nat) (xs : List D) (y y' : α) (hy : l[m]? = some y) (ho : o + xs.length ≤ c.sz) (hd : c.dec (setAt (c.enc y) o xs) = some y') :
    stRow (e, c.sz, l.length, cap, cellsT c l) (m * c.sz + o) xs = some (rowT c e cap (l.set m y')) := by
  have hm : m < l.length := by
    apply Classical.byContradiction
    intro hn
    rw [List.getElem?_eq_none (by omega)] at hy; cases hy
  have hmul := Nat.mul_le_mul_right c.sz (show m + 1 ≤ l.length from hm)
  rw [Nat.succ_mul] at hmul
  have e' := c.dcd _ _ hd
  have e1 : cellsT c l = cellsT c (l.take m) ++ (c.enc y ++ cellsT c (l.drop (m + 1))) := by
    have h1 := cellsT_idx c hy
    rw [← h1, cellsT_drop, ← cellsT_app, List.take_append_drop]
  have e2 : cellsT c (l.set m y') = cellsT c (l.take m) ++ (c.enc y' ++ cellsT c (l.drop (m + 1))) := by
    rw [List.set_eq_take_append_cons_drop, if_pos hm, cellsT_app]
    simp [cellsT]
  have e3 : (cellsT c (l.take m)).length = m * c.sz := by rw [cellsT_len, List.length_take, Nat.min_eq_left (by omega)]
  unfold stRow
  simp only
  rw [if_pos (by rw [cellsT_len]; omega)]
  simp only [rowT, List.length_set, e2, ← e', setAt]
  congr 1
  congr 1
  have d1 : (cellsT c (l.take m)).drop (m * c.sz + o + xs.length) = [] := List.drop_eq_nil_of_le (by omega)
  have t1 : (cellsT c (l.take m)).take (m * c.sz + o) = cellsT c (l.take m) := List.take_of_length_le (by omega)
  rw [e1, List.take_append, List.drop_append, e3, t1, d1]
  have a1 : m * c.sz + o - m * c.sz = o := by omega
  have a2 : m * c.sz + o + xs.length - m * c.sz = o + xs.length := by omega
  rw [a1, a2, List.take_append_of_le_length (by rw [c.len]; omega), List.drop_append_of_le_length (by rw [c.len]; omega)]
  simp only [List.nil_append, List.append_assoc]
theorem k_stf (e : Nat) (cap : Option Nat) (l : List α) (m o : Nat) (xs : List D) : n = c.sz → stRow (e, c.sz, l.length, cap, cellsT c l) (m * n + o) xs =
    if o + xs.length ≤ n then (match l[m]? with
      | some y => (c.dec (setAt (c.enc y) o xs)).elim (stRow0 (e, c.sz, l.length, cap, cellsT c l) (m * n + o) xs) fun y' => some (rowT c e cap (l.set m y'))
      | none => stRow0 (e, c.sz, l.length, cap, cellsT c l) (m * n + o) xs) else stRow0 (e, c.sz, l.length, cap, cellsT c l) (m * n + o) xs := by
  intro h
  subst h
  split
  · rename_i ho
    cases hy : l[m]? with
    | none => rfl
    | some y =>
      simp only
      cases hd : c.dec (setAt (c.enc y) o xs) with
      | none => rfl
      | some y' => exact stRow_part c e cap l m o xs y y' hy ho hd
  · rfl
theorem stPart_out {R : Nat × Nat × Nat × Option Nat × List D} {e : Nat} {cap : Option Nat} {m o : Nat} {xs : List D} {l : List α} (h : l.length ≤ m) (hx : 0 < xs.length) : stRow0 (e, c.sz, l.length, cap, cellsT c l) (m * c.sz + o) xs = none := by
  unfold stRow0 stRow
  simp only
  rw [if_neg]
  rw [cellsT_len]
  have := Nat.mul_le_mul_right c.sz h
  omega
theorem k_part (e : Nat) (cap : Option Nat) (l : List α) (m o : Nat) (xs : List D) : n = c.sz → stRow (e, c.sz, l.length, cap, cellsT c l) (m * n + o) xs =
    if o + xs.length ≤ n ∧ 0 < xs.length then (l[m]?).bind fun y => (c.dec (setAt (c.enc y) o xs)).elim (stRow0 (e, c.sz, l.length, cap, cellsT c l) (m * n + o) xs) fun y' => some (rowT c e cap (l.set m y'))
    else stRow0 (e, c.sz, l.length, cap, cellsT c l) (m * n + o) xs := by
  intro h
  split
  · rename_i ho
    rw [k_stf c n e cap l m o xs h, if_pos ho.1]
    subst h
    cases hy : l[m]? with
    | none => exact stPart_out c (R := (e, c.sz, l.length, cap, cellsT c l)) (List.getElem?_eq_none_iff.mp hy) ho.2
    | some y => rfl
  · rfl
theorem k_st (e : Nat) (cap : Option Nat) (l : List α) (m : Nat) (xs : List D) : n = c.sz → stRow (e, c.sz, l.length, cap, cellsT c l) (m * n) xs =
    (c.dec xs).elim (if 0 + xs.length ≤ n ∧ 0 < xs.length then (l[m]?).bind fun y => (c.dec (setAt (c.enc y) 0 xs)).elim (stRow0 (e, c.sz, l.length, cap, cellsT c l) (m * n + 0) xs) fun y' => some (rowT c e cap (l.set m y'))
      else stRow0 (e, c.sz, l.length, cap, cellsT c l) (m * n + 0) xs) fun x => (setN l m x).bind fun l' => some (rowT c e cap l') := by
  intro h
  cases hd : c.dec xs with
  | none =>
    exact k_part c n e cap l m 0 xs h
  | some x =>
    subst h
    rw [stRow_T c e cap l m c.sz xs x rfl hd]
    simp only [Option.elim]
    cases setN l m x <;> rfl
theorem k_app (e : Nat) (cap : Option Nat) (l l' : List α) (b : Nat) : n = c.sz →
    oApp (e, c.sz, l.length, cap, cellsT c l) e n b (lstT c l') = if room b (l ++ l').length then some (rowT c e none (l ++ l')) else none := by
  rintro rfl; exact oApp_T c e cap l l' c.sz b rfl
theorem k_slc2 (e : Nat) (cap : Option Nat) (l : List α) (k k' : IntKind) (lo hi : Int) : n = c.sz → oSlc (e, c.sz, l.length, cap, cellsT c l) n true true [.d (.int k lo), .d (.int k' hi)] = (cut l lo hi).bind fun l' => some (lstT c l') := by
  rintro rfl; exact oSlc_2 c e c.sz cap l k k' lo hi rfl
theorem k_slc1 (e : Nat) (cap : Option Nat) (l : List α) (k : IntKind) (lo : Int) : n = c.sz → oSlc (e, c.sz, l.length, cap, cellsT c l) n true false [.d (.int k lo)] = (cut l lo l.length).bind fun l' => some (lstT c l') := by
  rintro rfl; exact oSlc_1 c e c.sz cap l k lo rfl
theorem k_slc0 (e : Nat) (cap : Option Nat) (l : List α) (k : IntKind) (hi : Int) : n = c.sz → oSlc (e, c.sz, l.length, cap, cellsT c l) n false true [.d (.int k hi)] = (cut l 0 hi).bind fun l' => some (lstT c l') := by
  rintro rfl; exact oSlc_0 c e c.sz cap l k hi rfl
-- the same, where the length is told in another form
theorem k_part' (e : Nat) (cap : Option Nat) (l : List α) (m o : Nat) (xs : List D) (z : Nat) (hz : l.length = z) (h : n = c.sz) : stRow (e, c.sz, z, cap, cellsT c l) (m * n + o) xs =
    if o + xs.length ≤ n ∧ 0 < xs.length then (l[m]?).bind fun y => (c.dec (setAt (c.enc y) o xs)).elim (stRow0 (e, c.sz, l.length, cap, cellsT c l) (m * n + o) xs) fun y' => some (rowT c e cap (l.set m y'))
    else stRow0 (e, c.sz, l.length, cap, cellsT c l) (m * n + o) xs := hz ▸ k_part c n e cap l m o xs h
theorem k_st' (e : Nat) (cap : Option Nat) (l : List α) (m : Nat) (xs : List D) (z : Nat) (hz : l.length = z) (h : n = c.sz) : stRow (e, c.sz, z, cap, cellsT c l) (m * n) xs =
    (c.dec xs).elim (if 0 + xs.length ≤ n ∧ 0 < xs.length then (l[m]?).bind fun y => (c.dec (setAt (c.enc y) 0 xs)).elim (stRow0 (e, c.sz, l.length, cap, cellsT c l) (m * n + 0) xs) fun y' => some (rowT c e cap (l.set m y'))
      else stRow0 (e, c.sz, l.length, cap, cellsT c l) (m * n + 0) xs) fun x => (setN l m x).bind fun l' => some (rowT c e cap l') := hz ▸ k_st c n e cap l m xs h
theorem k_app' (e : Nat) (cap : Option Nat) (l l' : List α) (b : Nat) (z : Nat) (hz : l.length = z) (h : n = c.sz) :
    oApp (e, c.sz, z, cap, cellsT c l) e n b (lstT c l') = if room b (l ++ l').length then some (rowT c e none (l ++ l')) else none := hz ▸ k_app c n e cap l l' b h
theorem k_appS (r : Nat × Nat × Nat × Option Nat × List D) (e b : Nat) (l : List α) : oApp r e n b (lstST c l) = oApp r e n b (lstT c l) := rfl
theorem k_cut' (e : Nat) (cap : Option Nat) (l : List α) (h' : Int) (z : Nat) (hz : l.length = z) (h : n = c.sz) :
    oCut (e, c.sz, z, cap, cellsT c l) n h' = if 0 ≤ h' ∧ h' ≤ l.length then some (rowT c e cap (l.take h'.toNat)) else none := by
  subst hz h; exact oCut_T c e cap l c.sz rfl h'
theorem k_slc2' (e : Nat) (cap : Option Nat) (l : List α) (k k' : IntKind) (lo hi : Int) (z : Nat) (hz : l.length = z) (h : n = c.sz) : oSlc (e, c.sz, z, cap, cellsT c l) n true true [.d (.int k lo), .d (.int k' hi)] = (cut l lo hi).bind fun l' => some (lstT c l') := hz ▸ k_slc2 c n e cap l k k' lo hi h
theorem k_slc1' (e : Nat) (cap : Option Nat) (l : List α) (k : IntKind) (lo : Int) (z : Nat) (hz : l.length = z) (h : n = c.sz) : oSlc (e, c.sz, z, cap, cellsT c l) n true false [.d (.int k lo)] = (cut l lo l.length).bind fun l' => some (lstT c l') := hz ▸ k_slc1 c n e cap l k lo h
theorem k_slc0' (e : Nat) (cap : Option Nat) (l : List α) (k : IntKind) (hi : Int) (z : Nat) (hz : l.length = z) (h : n = c.sz) : oSlc (e, c.sz, z, cap, cellsT c l) n false true [.d (.int k hi)] = (cut l 0 hi).bind fun l' => some (lstT c l') := hz ▸ k_slc0 c n e cap l k hi h
theorem k_get (l : List α) (m o : Nat) (ho : o < c.sz) : n = c.sz → (cellsT c l)[m * n + o]? = (l[m]?).bind fun x => (c.enc x)[o]? := by
  rintro rfl; exact get_T c l m o ho
theorem k_get00 (l : List α) : n = c.sz → (cellsT c l)[0]? = (l[0]?).bind fun x => (c.enc x)[0]? := by
  rintro rfl
  have := get_T c l 0 0 c.pos
  simpa using this
theorem k_get0 (l : List α) (m : Nat) : n = c.sz → (cellsT c l)[m * n]? = (l[m]?).bind fun x => (c.enc x)[0]? := by
  rintro rfl; exact get_T c l m 0 c.pos
end

def rKind {α : Type} (c : Enc α) (n : Nat) (h : n = c.sz) :=
  And.intro (fun {Γ ob d} l k i => et_ia (Γ := Γ) (ob := ob) (d := d) c l n k i h) <|
  And.intro (fun {Γ ob d} l => et_len (Γ := Γ) (ob := ob) (d := d) c l) <|
  And.intro (fun {Γ ob d} l k k' lo hi => et_slc2 (Γ := Γ) (ob := ob) (d := d) c l n k k' lo hi h) <|
  And.intro (fun {Γ ob d} l k lo => et_slc1 (Γ := Γ) (ob := ob) (d := d) c l n k lo h) <|
  And.intro (fun {Γ ob d} l k hi => et_slc0 (Γ := Γ) (ob := ob) (d := d) c l n k hi h) <|
  And.intro (oRow_T c) <| And.intro (oSnap_T c) <| And.intro (oX_T c) <| And.intro (oX_M c) <| And.intro (oBack_M c) <| And.intro (oBack_T c) <| And.intro (fun {ob} v e cap l => outPar_T (ob := ob) c v e cap l) <| And.intro (fun v e e' cap l lk => kindAs_T c v e e' n cap l lk h) <| And.intro (oOut_T c) <| And.intro (fun {ob d} e cap lk l j => ofX_T (ob := ob) (d := d) c e cap lk l j) <|
  And.intro (fun {ob} m e cap l => renO_T (ob := ob) c m e cap l) <| And.intro (fun {ob} m e cap l => renOk_T (ob := ob) c m e cap l) <|
  And.intro (fun l m => k_elemN c n l m h) <| And.intro (fun e cap l m xs z hz => k_st' c n e cap l m xs z hz h) <| And.intro (fun e cap l l' b z hz => k_app' c n e cap l l' b z hz h) <| And.intro (fun r e b l => k_appS c n r e b l) <| And.intro (fun l => k_get00 c n l h) <| And.intro (oOut_P c) <| And.intro (parA_T c) <| And.intro (fun e cap l h' z hz => k_cut' c n e cap l h' z hz h) <|
  And.intro (fun e cap l k k' lo hi z hz => k_slc2' c n e cap l k k' lo hi z hz h) <| And.intro (fun e cap l k lo z hz => k_slc1' c n e cap l k lo z hz h) <| And.intro (fun e cap l k hi z hz => k_slc0' c n e cap l k hi z hz h) (fun l m => k_get0 c n l m h)

/-- elements, out of their cells -/
def decN {α : Type} (c : Enc α) (s : Nat) : Nat → List D → Option (List α)
  | 0, [] => some []
  | 0, _ :: _ => none
  | n + 1, xs => (c.dec (xs.take s)).bind fun x => (decN c s n (xs.drop s)).bind fun l => some (x :: l)
theorem decN_ok {α : Type} (c : Enc α) (s : Nat) (hs : s = c.sz) : ∀ (n : Nat) (xs : List D) (l : List α), decN c s n xs = some l → xs = cellsT c l ∧ n = l.length
  | 0, [], l, h => by cases h; exact ⟨rfl, rfl⟩
  | 0, _ :: _, l, h => by cases h
  | n + 1, xs, l, h => by
    simp only [decN] at h
    obtain ⟨x, h1, h⟩ := Option.bind_eq_some_iff.mp h
    obtain ⟨l', h2, h⟩ := Option.bind_eq_some_iff.mp h
    cases h
    obtain ⟨e1, e2⟩ := decN_ok c s hs n _ _ h2
    have e3 := c.dcd _ _ h1
    refine ⟨?_, by simp [e2]⟩
    rw [← List.take_append_drop s xs, e3, e1]
    simp [cellsT]
theorem decN_T {α : Type} (c : Enc α) : ∀ (l : List α), decN c c.sz l.length (cellsT c l) = some l
  | [] => rfl
  | x :: l => by
    have h : cellsT c (x :: l) = c.enc x ++ cellsT c l := by simp [cellsT]
    have h1 : (c.enc x ++ cellsT c l).take c.sz = c.enc x := by rw [List.take_append_of_le_length (by rw [c.len]; exact Nat.le_refl _), List.take_of_length_le (by rw [c.len]; exact Nat.le_refl _)]
    have h2 : (c.enc x ++ cellsT c l).drop c.sz = cellsT c l := by rw [List.drop_append, List.drop_eq_nil_of_le (by rw [c.len]; exact Nat.le_refl _), c.len]; simp
    rw [h, List.length_cons]
    simp only [decN, h1, h2, c.edc, decN_T c l, Option.bind_some]
/-- a list, out of its datum -/
def decL {α : Type} (c : Enc α) : D → Option (List α)
  | .lst n cs => decN c c.sz n cs
  | _ => none
theorem decL_ok {α : Type} {c : Enc α} {d : D} {l : List α} (h : decL c d = some l) : d = lstT c l := by
  unfold decL at h
  split at h
  · obtain ⟨e1, e2⟩ := decN_ok c c.sz rfl _ _ _ h
    rw [e1, e2]; rfl
  · cases h
theorem decL_T {α : Type} (c : Enc α) (l : List α) : decL c (lstT c l) = some l := decN_T c l
def decLs {α : Type} (c : Enc α) : List D → Option (List α)
  | [d] => decL c d
  | _ => none
/-- a list as an element -/
def cL {α : Type} (c : Enc α) : Enc (List α) where
  sz := 1
  enc l := [lstT c l]
  dec := decLs c
  len _ := rfl
  pos := by decide
  dcd := by
    intro xs x h
    unfold decLs at h
    split at h
    · rw [decL_ok h]
    · cases h
  edc l := decL_T c l
theorem cL_enc {α : Type} (c : Enc α) (l : List α) : (cL c).enc l = [lstT c l] := rfl
theorem cL_dec {α : Type} (c : Enc α) (l : List α) : (cL c).dec [lstT c l] = some l := decL_T c l
theorem decN_0 {α : Type} (c : Enc α) (s : Nat) : decN c s 0 [] = some [] := rfl
theorem decN_s {α : Type} (c : Enc α) (s n : Nat) (xs : List D) : decN c s (n + 1) xs = (c.dec (xs.take s)).bind fun x => (decN c s n (xs.drop s)).bind fun l => some (x :: l) := rfl
/-- rows of elements of type e -/
theorem lit_T {α : Type} (c : Enc α) (e s : Nat) (hs : s = c.sz) (n : Nat) (xs : List D) : litRow e s n xs = (decN c s n xs).elim (O.row e s n (some n) xs) fun l => rowT c e (some n) l := by
  cases h : decN c s n xs with
  | none => rfl
  | some l =>
    obtain ⟨e1, e2⟩ := decN_ok c s hs n xs l h
    subst hs
    simp only [litRow, Option.elim, rowT, e1, e2]
theorem zero_T {α : Type} (c : Enc α) (e s : Nat) (hs : s = c.sz) (zs : List D) (z : α) (hz : c.dec zs = some z) (n cap : Nat) : zeroRow e s n cap zs = rowT c e (some cap) (List.replicate n z) := by
  subst hs
  exact row_rep c e (some cap) n zs z hz
theorem nilRow_T {α : Type} (c : Enc α) (e s : Nat) (hs : s = c.sz) : X.own e s 0 none [] false = ownT c e none false [] := by subst hs; rfl
theorem zero0_T {α : Type} (c : Enc α) (e s : Nat) (hs : s = c.sz) (zs : List D) (z : α) (hz : c.dec zs = some z) (n : Nat) : zeroRow0 e s n zs = rowT c e none (List.replicate n z) := by
  subst hs
  exact row_rep c e none n zs z hz
/-- so many zeros may be asked for -/
def zOk (b : Nat) (k : Int) : Prop := 0 ≤ k ∧ k.toNat * b ≤ roomB ∧ k ≤ 9223372036854775807
instance (b : Nat) (k : Int) : Decidable (zOk b k) := by unfold zOk; infer_instance
theorem zNew_T {α : Type} (c : Enc α) (e s : Nat) (hs : s = c.sz) (zs : List D) (x : α) (hx : c.dec zs = some x) (id ver b : Nat) (k : Int) :
    zNew id ver e s b zs k = if zOk b k then (if k = 0 then some (.val .nil []) else some (.val (.row id ver) [(id, ⟨ver, rowT c e none (List.replicate k.toNat x), false⟩)])) else none := by
  unfold zNew
  rw [zero0_T c e s hs zs x hx]
  subst hs
  obtain rfl := c.dcd _ _ hx
  by_cases h : zOk b k
  · have h' := h
    unfold zOk at h'
    rw [if_pos h, if_pos ⟨h'.1, c.len _, c.pos, h'.2.1, h'.2.2⟩]
  · rw [if_neg h, if_neg (fun q => h ⟨q.1, q.2.2.2.1, q.2.2.2.2⟩)]
theorem appZ_T {α : Type} (c : Enc α) (e s : Nat) (hs : s = c.sz) (zs : List D) (x : α) (hx : c.dec zs = some x) (cap : Option Nat) (l : List α) (b : Nat) (k : Int) (z : Nat) (hz : l.length = z) :
    oAppZ (e, c.sz, z, cap, cellsT c l) e s b zs k = if 0 ≤ k ∧ room b (l ++ List.replicate k.toNat x).length then some (rowT c e none (l ++ List.replicate k.toNat x)) else none := by
  subst hz hs; exact oAppZ_T c e cap l c.sz b rfl zs x hx k
theorem clr_T {α : Type} (c : Enc α) (e s : Nat) (hs : s = c.sz) (zs : List D) (x : α) (hx : c.dec zs = some x) (cap : Option Nat) (l : List α) (lo : Nat) (z : Nat) (hz : l.length = z) :
    oClr (e, c.sz, z, cap, cellsT c l) zs lo s = if lo ≤ l.length then some (rowT c e cap (l.take lo ++ List.replicate (l.length - lo) x)) else none := oClr_T c e cap l zs x hx lo s hs z hz
def rRow {α : Type} (c : Enc α) (e s : Nat) (hs : s = c.sz) (zs : List D) (z : α) (hz : c.dec zs = some z) := And.intro (nilRow_T c e s hs) <| And.intro (lit_T c e s hs) <| And.intro (zero_T c e s hs zs z hz) <| And.intro (zNew_T c e s hs zs z hz) <| And.intro (clr_T c e s hs zs z hz) (appZ_T c e s hs zs z hz)
/-- a place that is not the first -/
theorem tn_pos {α β : Type} (a : Int) (X Y N : Option β) (L : Option α) (p : α → Prop) [∀ y, Decidable (p y)] (W V : α → Option β) :
    (if a < 1 then X else if 10 < a then Y else L.bind fun y => if p y then if a.toNat * 1 = 0 then W y else V y else N)
      = if a < 1 then X else if 10 < a then Y else L.bind fun y => if p y then V y else N := by
  by_cases h : a < 1
  · rw [if_pos h, if_pos h]
  · have h' : ¬ a.toNat * 1 = 0 := by omega
    simp only [h', if_false]
theorem toNat_cast (n : Nat) : (n : Int).toNat = n := Int.toNat_natCast n
/-- a row of elements that lead to no memory -/
theorem plain_T {α : Type} (c : Enc α) (h : ∀ x, (c.enc x).all D.flat = true) (fl : TypeId → Bool) (e : Nat) (cap : Option Nat) (lk : Bool) (l : List α) : plainX fl (ownT c e cap lk l) = fl e := by
  have : (cellsT c l).all D.flat = true := by
    unfold cellsT
    rw [List.all_flatMap]
    simp [h]
  simp only [ownT, plainX, this, Bool.and_true]
theorem cI_enc (x : Int) : cI.enc x = [.int .i64 x] := rfl
theorem cI_dec (x : Int) : cI.dec [.int .i64 x] = some x := rfl
theorem c8_enc (x : Int) : c8.enc x = [.int .u8 x] := rfl
theorem c8_dec (x : Int) : c8.dec [.int .u8 x] = some x := rfl
theorem cB_enc (x : Bool) : cB.enc x = [.bool x] := rfl
theorem cB_dec (x : Bool) : cB.dec [.bool x] = some x := rfl
theorem cS_enc (x : List UInt8) : cS.enc x = [sD x] := rfl
theorem cS_dec (x : List UInt8) : cS.dec [sD x] = some x := rfl
theorem setAt_eq (cells : List D) (o : Nat) (xs : List D) : setAt cells o xs = cells.take o ++ xs ++ cells.drop (o + xs.length) := rfl
theorem elim_none {α β : Type} (b : β) (f : α → β) : (none : Option α).elim b f = b := rfl
theorem elim_some {α β : Type} (b : β) (f : α → β) (x : α) : (some x).elim b f = f x := rfl
theorem app_cons {α : Type} (a : α) (l r : List α) : (a :: l) ++ r = a :: (l ++ r) := rfl
theorem app_nil {α : Type} (r : List α) : [] ++ r = r := rfl
theorem bind_some' {α β : Type} (x : α) (f : α → Option β) : (some x).bind f = f x := rfl
theorem bind_none' {α β : Type} (f : α → Option β) : (none : Option α).bind f = none := rfl
theorem bind_bind {α β γ : Type} (x : Option α) (f : α → Option β) (g : β → Option γ) : (x.bind f).bind g = x.bind fun y => (f y).bind g := Option.bind_assoc ..
/-- an element at a place that is written out -/
theorem k_getK {α : Type} (c : Enc α) (k K : Nat) (h : K = k * c.sz) (l : List α) : (cellsT c l)[K]? = (l[k]?).bind fun x => (c.enc x)[0]? := by
  subst h; exact k_get0 c c.sz l k rfl
def rLit1 {α : Type} (c : Enc α) (h : c.sz = 1) := And.intro (k_getK c 1 1 (by rw [h])) <| And.intro (k_getK c 2 2 (by rw [h])) <| And.intro (k_getK c 3 3 (by rw [h])) <| And.intro (k_getK c 4 4 (by rw [h])) (k_getK c 5 5 (by rw [h]))
def rLit := And.intro (rLit1 cI rfl) <| And.intro (rLit1 cS rfl) <| And.intro (rLit1 cB rfl) (rLit1 c8 rfl)
def rI := And.intro (plain_T cI (fun _ => rfl)) <| And.intro (rKind cI 1 rfl) (And.intro cI_enc cI_dec)
def r8 := And.intro (plain_T c8 (fun _ => rfl)) <| And.intro (rKind c8 1 rfl) (And.intro c8_enc c8_dec)
def rB := And.intro (plain_T cB (fun _ => rfl)) <| And.intro (rKind cB 1 rfl) (And.intro cB_enc cB_dec)
/-- a row of lists is taken to lead to memory -/
theorem plain_N {α : Type} (c : Enc α) (fl : TypeId → Bool) (e : Nat) (cap : Option Nat) (lk : Bool) (l : List α) : plainX fl (ownT c e cap lk l) = (fl e && (cellsT c l).all D.flat) := by simp only [ownT, plainX]
def rLI := And.intro (plain_N (cL cI)) <| And.intro (rKind (cL cI) 1 rfl) (And.intro (cL_enc cI) (cL_dec cI))
def rS := And.intro (plain_T cS (fun _ => rfl)) <| And.intro (rKind cS 1 rfl) (And.intro cS_enc cS_dec)
/-- the end of a call, in plain terms -/
inductive Res (α : Type) where
  | ok (a : α)
  | pan (x : D)
def Res.on {α β : Type} (r : Res α) (f : α → Option β) (g : D → Option β) : Option β := match r with
  | .ok a => f a
  | .pan x => g x
/-- one end or another -/
inductive Alt (α β : Type) where
  | a (x : α)
  | b (y : β)
def Alt.on {α β γ : Type} (r : Alt α β) (f : α → Option γ) (g : β → Option γ) : Option γ := match r with
  | .a x => f x
  | .b y => g y
theorem alt_a {α β γ : Type} (x : α) (f : α → Option γ) (g : β → Option γ) : (Alt.a x : Alt α β).on f g = f x := rfl
theorem alt_b {α β γ : Type} (y : β) (f : α → Option γ) (g : β → Option γ) : (Alt.b y : Alt α β).on f g = g y := rfl
theorem alt_bind {α β γ δ : Type} (r : Alt α β) (f : α → Option γ) (g : β → Option γ) (h : γ → Option δ) : (r.on f g).bind h = r.on (fun a => (f a).bind h) (fun x => (g x).bind h) := by cases r <;> rfl
theorem dR_alt {α β : Type} (fl : TypeId → Bool) (ob : Nat → Ob) (d : Nat) (ls ms : List Nat) (r : Alt α β) (f : α → Option XOut) (g : β → Option XOut) : dR fl ob d ls ms (r.on f g) = r.on (fun a => dR fl ob d ls ms (f a)) (fun x => dR fl ob d ls ms (g x)) := by cases r <;> rfl
theorem gOut_alt {α β : Type} {E : En} {k : List KJ} {st : St} (d : Option Nat) (r : Alt α β) (f : α → Option Out) (g : β → Option Out) (l : List SOper) : gOut E d (r.on f g) l k st = r.on (fun a => gOut E d (f a) l k st) (fun x => gOut E d (g x) l k st) := by cases r <;> rfl
theorem gOutT_alt {α β : Type} {E : En} {k : List KJ} {st : St} (v : List Nat) (d : Option Nat) (op : SOp) (r : Alt α β) (f : α → Option Out) (g : β → Option Out) (l : List SOper) :
    gOutT E v d op (r.on f g) l k st = r.on (fun a => gOutT E v d op (f a) l k st) (fun x => gOutT E v d op (g x) l k st) := by cases r <;> rfl
theorem gOutF_alt {α β : Type} {E : En} {k : List KJ} {st : St} (v fb : List Nat) (fl : Bool) (wt : List Nat) (d : Option Nat) (op : SOp) (r : Alt α β) (f : α → Option Out) (g : β → Option Out) (l : List SOper) :
    gOutF E v fb fl wt d op (r.on f g) l k st = r.on (fun a => gOutF E v fb fl wt d op (f a) l k st) (fun x => gOutF E v fb fl wt d op (g x) l k st) := by cases r <;> rfl
theorem on_ok {α β : Type} (a : α) (f : α → Option β) (g : D → Option β) : (Res.ok a).on f g = f a := rfl
theorem on_pan {α β : Type} (x : D) (f : α → Option β) (g : D → Option β) : (Res.pan x : Res α).on f g = g x := rfl
theorem on_bind {α β γ : Type} (r : Res α) (f : α → Option β) (g : D → Option β) (h : β → Option γ) : (r.on f g).bind h = r.on (fun a => (f a).bind h) (fun x => (g x).bind h) := by cases r <;> rfl
theorem dR_on {α : Type} (fl : TypeId → Bool) (ob : Nat → Ob) (d : Nat) (ls ms : List Nat) (r : Res α) (f : α → Option XOut) (g : D → Option XOut) : dR fl ob d ls ms (r.on f g) = r.on (fun a => dR fl ob d ls ms (f a)) (fun x => dR fl ob d ls ms (g x)) := by cases r <;> rfl
theorem gOut_on {α : Type} {E : En} {k : List KJ} {st : St} (d : Option Nat) (r : Res α) (f : α → Option Out) (g : D → Option Out) (l : List SOper) : gOut E d (r.on f g) l k st = r.on (fun a => gOut E d (f a) l k st) (fun x => gOut E d (g x) l k st) := by cases r <;> rfl
theorem gOutF_on {α : Type} {E : En} {k : List KJ} {st : St} (v fb : List Nat) (fl : Bool) (wt : List Nat) (d : Option Nat) (op : SOp) (r : Res α) (f : α → Option Out) (g : D → Option Out) (l : List SOper) :
    gOutF E v fb fl wt d op (r.on f g) l k st = r.on (fun a => gOutF E v fb fl wt d op (f a) l k st) (fun x => gOutF E v fb fl wt d op (g x) l k st) := by cases r <;> rfl
theorem gOutT_on {α : Type} {E : En} {k : List KJ} {st : St} (v : List Nat) (d : Option Nat) (op : SOp) (r : Res α) (f : α → Option Out) (g : D → Option Out) (l : List SOper) :
    gOutT E v d op (r.on f g) l k st = r.on (fun a => gOutT E v d op (f a) l k st) (fun x => gOutT E v d op (g x) l k st) := by cases r <;> rfl
-- the end of a call, without the rows' capacities
mutual
def ncX : X → X
  | .own e s n _ cells lk => .own e s n none cells lk
  | .box xs => .box (ncXs xs)
  | .agg xs => .agg (ncXs xs)
  | .tup xs => .tup (ncXs xs)
  | .d x => .d x
  | .nil => .nil
  | .par k => .par k
  | .res k x => .res k x
def ncXs : List X → List X
  | [] => []
  | x :: xs => ncX x :: ncXs xs
end
def nocap : XOut → XOut
  | .ret x outs => .ret (ncX x) outs
  | .pan x outs => .pan x outs
theorem nc_own {α : Type} (c : Enc α) (e : Nat) (cap : Option Nat) (lk : Bool) (l : List α) : ncX (ownT c e cap lk l) = ownT c e none lk l := by simp only [ownT, ncX]
theorem nc_d (x : D) : ncX (.d x) = .d x := by simp only [ncX]
theorem nc_nil : ncX .nil = .nil := by simp only [ncX]
theorem nc_par (k : Nat) : ncX (.par k) = .par k := by simp only [ncX]
theorem nc_res (k : RK) (x : D) : ncX (.res k x) = .res k x := by simp only [ncX]
theorem nc_box (xs : List X) : ncX (.box xs) = .box (ncXs xs) := by simp only [ncX]
theorem nc_agg (xs : List X) : ncX (.agg xs) = .agg (ncXs xs) := by simp only [ncX]
theorem nc_tup (xs : List X) : ncX (.tup xs) = .tup (ncXs xs) := by simp only [ncX]
theorem ncs_nil : ncXs [] = [] := by simp only [ncXs]
theorem ncs_cons (x : X) (xs : List X) : ncXs (x :: xs) = ncX x :: ncXs xs := by simp only [ncXs]
theorem nocap_ret (x : X) (outs : List (List D)) : nocap (.ret x outs) = .ret (ncX x) outs := rfl
theorem nocap_pan (x : D) (outs : List (List D)) : nocap (.pan x outs) = .pan x outs := rfl
/-- what a result is taken for: an empty slice as a row of the callee's own -/
inductive Md where
  | k
  | own (e s : Nat)
  | node (l : List Md)
  -- as a list
  | dat
mutual
def ownX : Md → X → X
  | .own e s, .nil => .own e s 0 none [] false
  | .dat, .nil => .d (.lst 0 [])
  | .node ms, .agg xs => .agg (ownXs ms xs)
  | .node ms, .tup xs => .tup (ownXs ms xs)
  | _, x => x
def ownXs : List Md → List X → List X
  | m :: ms, x :: xs => ownX m x :: ownXs ms xs
  | _, xs => xs
end
def asOwn (m : Md) : XOut → XOut
  | .ret x outs => .ret (ownX m x) outs
  | .pan x outs => .pan x outs
theorem ow_nil (e s : Nat) : ownX (.own e s) .nil = .own e s 0 none [] false := by simp only [ownX]
theorem ow_par (m : Md) (k : Nat) : ownX m (.par k) = .par k := by cases m <;> simp only [ownX]
theorem ow_res (m : Md) (k : RK) (x : D) : ownX m (.res k x) = .res k x := by cases m <;> simp only [ownX]
theorem ow_dat0 : ownX .dat .nil = .d (.lst 0 []) := by simp only [ownX]
theorem ow_k (x : X) : ownX .k x = x := by simp only [ownX]
theorem ow_own {α : Type} (c : Enc α) (m : Md) (e : Nat) (cap : Option Nat) (lk : Bool) (l : List α) : ownX m (ownT c e cap lk l) = ownT c e cap lk l := by
  cases m <;> simp only [ownT, ownX]
theorem ow_d (m : Md) (x : D) : ownX m (.d x) = .d x := by cases m <;> simp only [ownX]
theorem ow_agg (ms : List Md) (xs : List X) : ownX (.node ms) (.agg xs) = .agg (ownXs ms xs) := by simp only [ownX]
theorem ow_tup (ms : List Md) (xs : List X) : ownX (.node ms) (.tup xs) = .tup (ownXs ms xs) := by simp only [ownX]
theorem ows_nil (ms : List Md) : ownXs ms [] = [] := by cases ms <;> simp only [ownXs]
theorem ows_nil' (xs : List X) : ownXs [] xs = xs := by simp only [ownXs]
theorem ows_cons (m : Md) (ms : List Md) (x : X) (xs : List X) : ownXs (m :: ms) (x :: xs) = ownX m x :: ownXs ms xs := by simp only [ownXs]
theorem asOwn_ret (m : Md) (x : X) (outs : List (List D)) : asOwn m (.ret x outs) = .ret (ownX m x) outs := rfl
theorem asOwn_pan (m : Md) (x : D) (outs : List (List D)) : asOwn m (.pan x outs) = .pan x outs := rfl
/-- lent rows whose heads are taken to have changed -/
def mk1 : List D → List D
  | [x] => [x, .bool true]
  | ds => ds
def mkOuts : List Bool → List (List D) → List (List D)
  | true :: bs, ds :: outs => mk1 ds :: mkOuts bs outs
  | false :: bs, ds :: outs => ds :: mkOuts bs outs
  | _, outs => outs
def markX (bs : List Bool) : XOut → XOut
  | .ret x outs => .ret x (mkOuts bs outs)
  | .pan x outs => .pan x outs
theorem markX_ret (bs : List Bool) (x : X) (outs : List (List D)) : markX bs (.ret x outs) = .ret x (mkOuts bs outs) := rfl
theorem markX_pan (bs : List Bool) (x : D) (outs : List (List D)) : markX bs (.pan x outs) = .pan x outs := rfl
theorem mkOuts_t (bs : List Bool) (ds : List D) (outs : List (List D)) : mkOuts (true :: bs) (ds :: outs) = mk1 ds :: mkOuts bs outs := rfl
theorem mkOuts_f (bs : List Bool) (ds : List D) (outs : List (List D)) : mkOuts (false :: bs) (ds :: outs) = ds :: mkOuts bs outs := rfl
theorem mkOuts_n (outs : List (List D)) : mkOuts [] outs = outs := by cases outs <;> rfl
theorem mk1_1 (x : D) : mk1 [x] = [x, .bool true] := rfl
theorem mk1_2 (x y : D) : mk1 [x, y] = [x, y] := rfl
/-- an int, wrapped round -/
def w64 (n : Int) : Int := IntKind.i64.wrap n
theorem w64_eq (n : Int) : IntKind.i64.wrap n = w64 n := rfl
/-- plain reckoning -/
def rEtc := And.intro markX_ret <| And.intro markX_pan <| And.intro mkOuts_t <| And.intro mkOuts_f <| And.intro mkOuts_n <| And.intro mk1_1 <| And.intro mk1_2 <| And.intro ow_nil <| And.intro ow_k <| And.intro @ow_own <| And.intro ow_d <| And.intro ow_agg <| And.intro ow_tup <| And.intro ows_nil <| And.intro ows_nil' <| And.intro ows_cons <| And.intro asOwn_ret <| And.intro asOwn_pan <| And.intro @nc_own <| And.intro nc_d <| And.intro nc_nil <| And.intro nc_par <| And.intro nc_res <| And.intro ow_res <| And.intro ow_par <| And.intro nc_box <| And.intro nc_agg <| And.intro nc_tup <| And.intro ncs_nil <| And.intro ncs_cons <| And.intro nocap_ret <| And.intro nocap_pan <| And.intro @decN_0 <| And.intro @decN_s <| And.intro toNat_cast <| And.intro @w64_eq <| And.intro @alt_a <| And.intro @alt_b <| And.intro @alt_bind <| And.intro @dR_alt <| And.intro @gOut_alt <| And.intro @gOutT_alt <| And.intro @gOutF_alt <| And.intro @on_ok <| And.intro @on_pan <| And.intro @on_bind <| And.intro @dR_on <| And.intro @gOut_on <| And.intro @gOutT_on <| And.intro @gOutF_on <| And.intro setAt_eq <| And.intro @elim_none <| And.intro @elim_some (And.intro @app_cons (And.intro @app_nil (And.intro @bind_some' (And.intro @bind_none' @bind_bind))))
/-- plain logic -/
def rLog := And.intro @Option.some_beq_some.{0} <| And.intro @Nat.zero_add <| And.intro @Nat.add_zero <| And.intro @Bool.not_true <| And.intro @Bool.not_false <| And.intro @Bool.and_true <| And.intro @Bool.true_and <| And.intro @Bool.and_false <| And.intro @Bool.false_and <| And.intro @Bool.and_self <| And.intro @Bool.or_false <| And.intro @Bool.false_or <| And.intro @Bool.or_true <| And.intro @Bool.true_or <| And.intro @Bool.or_self <| And.intro @decide_eq_true_eq <| And.intro @Bool.not_eq_true' <| And.intro @Bool.not_eq_eq_eq_not <| And.intro @decide_eq_false_iff_not <| And.intro @ite_not.{1} <| And.intro @ite_self.{1} <| And.intro @List.nil_append.{0} <| And.intro @List.append_nil.{0} <| And.intro @Option.map_some.{0,0} <| And.intro @Option.map_none.{0,0} <| And.intro @List.length_replicate.{0} <| And.intro @Int.natCast_nonneg <| And.intro @and_self <| And.intro @and_true <| And.intro @true_and <| And.intro @Bool.false_eq_true <| And.intro @decide_true <| And.intro @decide_false <| And.intro @List.cons_append.{0} <| And.intro @Int.cast_ofNat_Int <| And.intro @not_true_eq_false <| And.intro @not_false_eq_true <| @eq_self.{1}
/-- where a function runs -/
structure Hy (E : En) (ps pl : List Nat) (ck : List (Nat × KO)) (rs : List RV) (dd : Option (List Nat × List Nat)) (wk : XOut → XOut) (fl : Nat → Bool) : Prop where
  p : E.ps = ps
  l : E.pl = pl
  k : E.ck = ck
  r : E.rs = rs
  d : E.dd = dd
  w : ∀ y, E.wk y = some (wk y)
  f : ∀ e, E.Γ.fl e = fl e
end Go.Vm
