/- The rules for lists of one kind, bundled. -/
import Derived.Test.YtejgcpankckdkaaVmRul
set_option linter.unusedVariables false
set_option linter.unusedSectionVars false
set_option linter.unusedSimpArgs false
set_option linter.defProp false
namespace Go.Vm

def stRow0 := stRow
@[congr] theorem gH_congr {E : En} {keep : List Nat} {b : Cd} {k : List KJ} {m : Nat} {st st' : St} (h : st = st') : gH E keep b k m st = gH E keep b k m st' := by rw [h]
theorem G_unf (c c' : Cd) (h : c = c') {E : En} {k : List KJ} {st : St} : G E c k st = G E c' k st := by rw [h]
@[congr] theorem G_congr {E : En} {c c' : Cd} {k : List KJ} {st : St} (h : c = c') : G E c k st = G E c' k st := by rw [h]
section
variable {α : Type} (c : Enc α) (n : Nat) (h : n = c.sz)
theorem k_elemN (l : List α) (m : Nat) : n = c.sz → elemN (cellsT c l) (m * n) n = (l[m]?).bind fun x => some (c.enc x) := by
  intro h
  rw [elemN_T c l m n h]; cases l[m]? <;> rfl
theorem k_st (e : Nat) (cap : Option Nat) (l : List α) (m : Nat) (xs : List D) : n = c.sz → stRow (e, c.sz, l.length, cap, cellsT c l) (m * n) xs =
    (c.dec xs).elim (stRow0 (e, c.sz, l.length, cap, cellsT c l) (m * n) xs) fun x => (setN l m x).bind fun l' => some (rowT c e cap l') := by
  intro h
  cases hd : c.dec xs with
  | none => rfl
  | some x =>
    subst h
    rw [stRow_T c e cap l m c.sz xs x rfl hd]
    simp only [Option.elim]
    cases setN l m x <;> rfl
theorem k_app (e : Nat) (cap : Option Nat) (l l' : List α) (b : Nat) : n = c.sz →
    oApp (e, c.sz, l.length, cap, cellsT c l) e n b (lstT c l') = if room b (l ++ l').length then some (rowT c e none (l ++ l')) else none := by
  rintro rfl; exact oApp_T c e cap l l' c.sz b rfl
theorem k_slc2 (e : Nat) (cap : Option Nat) (l : List α) (k k' : IntKind) (lo hi : Int) : n = c.sz → oSlc (e, c.sz, l.length, cap, cellsT c l) n true true [.d (.int k lo), .d (.int k' hi)] = (cut l lo hi).bind fun l' => some (lstT c l') := by
  rintro rfl; exact oSlc_2 c e c.sz cap l k k' lo hi rfl
theorem k_slc1 (e : Nat) (cap : Option Nat) (l : List α) (k : IntKind) (lo : Int) : n = c.sz → oSlc (e, c.sz, l.length, cap, cellsT c l) n true false [.d (.int k lo)] = (cut l lo l.length).bind fun l' => some (lstT c l') := by
  rintro rfl; exact oSlc_1 c e c.sz cap l k lo rfl
theorem k_slc0 (e : Nat) (cap : Option Nat) (l : List α) (k : IntKind) (hi : Int) : n = c.sz → oSlc (e, c.sz, l.length, cap, cellsT c l) n false true [.d (.int k hi)] = (cut l 0 hi).bind fun l' => some (lstT c l') := by
  rintro rfl; exact oSlc_0 c e c.sz cap l k hi rfl
theorem k_get (l : List α) (m o : Nat) (ho : o < c.sz) : n = c.sz → (cellsT c l)[m * n + o]? = (l[m]?).bind fun x => (c.enc x)[o]? := by
  rintro rfl; exact get_T c l m o ho
theorem k_get0 (l : List α) (m : Nat) : n = c.sz → (cellsT c l)[m * n]? = (l[m]?).bind fun x => (c.enc x)[0]? := by
  rintro rfl; exact get_T c l m 0 c.pos
end

def rKind {α : Type} (c : Enc α) (n : Nat) (h : n = c.sz) :=
  And.intro (fun {Γ ob d} l k i => et_ia (Γ := Γ) (ob := ob) (d := d) c l n k i h) <|
  And.intro (fun {Γ ob d} l => et_len (Γ := Γ) (ob := ob) (d := d) c l) <|
  And.intro (fun {Γ ob d} l k k' lo hi => et_slc2 (Γ := Γ) (ob := ob) (d := d) c l n k k' lo hi h) <|
  And.intro (fun {Γ ob d} l k lo => et_slc1 (Γ := Γ) (ob := ob) (d := d) c l n k lo h) <|
  And.intro (fun {Γ ob d} l k hi => et_slc0 (Γ := Γ) (ob := ob) (d := d) c l n k hi h) <|
  And.intro (oRow_T c) <| And.intro (oSnap_T c) <| And.intro (oX_T c) <| And.intro (oOut_T c) <| And.intro (fun {ob d} e cap lk l j => ofX_T (ob := ob) (d := d) c e cap lk l j) <|
  And.intro (fun {ob} m e cap l => renO_T (ob := ob) c m e cap l) <| And.intro (fun {ob} m e cap l => renOk_T (ob := ob) c m e cap l) <|
  And.intro (fun l m => k_elemN c n l m h) <| And.intro (fun e cap l m xs => k_st c n e cap l m xs h) <| And.intro (fun e cap l l' b => k_app c n e cap l l' b h) <|
  And.intro (fun e cap l k k' lo hi => k_slc2 c n e cap l k k' lo hi h) <| And.intro (fun e cap l k lo => k_slc1 c n e cap l k lo h) <| And.intro (fun e cap l k hi => k_slc0 c n e cap l k hi h) (fun l m => k_get0 c n l m h)

/-- elements, out of their cells -/
def decN {α : Type} (c : Enc α) (s : Nat) : Nat → List D → Option (List α)
  | 0, [] => some []
  | 0, _ :: _ => none
  | n + 1, xs => (c.dec (xs.take s)).bind fun x => (decN c s n (xs.drop s)).bind fun l => some (x :: l)
theorem decN_ok {α : Type} (c : Enc α) (s : Nat) (hs : s = c.sz) : ∀ (n : Nat) (xs : List D) (l : List α), decN c s n xs = some l → xs = cellsT c l ∧ n = l.length
  | 0, [], l, h => by cases h; exact ⟨rfl, rfl⟩
  | 0, _ :: _, l, h => by cases h
  | n + 1, xs, l, h => by
    simp only [decN] at h
    obtain ⟨x, h1, h⟩ := Option.bind_eq_some_iff.mp h
    obtain ⟨l', h2, h⟩ := Option.bind_eq_some_iff.mp h
    cases h
    obtain ⟨e1, e2⟩ := decN_ok c s hs n _ _ h2
    have e3 := c.dcd _ _ h1
    refine ⟨?_, by simp [e2]⟩
    rw [← List.take_append_drop s xs, e3, e1]
    simp [cellsT]
theorem decN_T {α : Type} (c : Enc α) : ∀ (l : List α), decN c c.sz l.length (cellsT c l) = some l
  | [] => rfl
  | x :: l => by
    have h : cellsT c (x :: l) = c.enc x ++ cellsT c l := by simp [cellsT]
    have h1 : (c.enc x ++ cellsT c l).take c.sz = c.enc x := by rw [List.take_append_of_le_length (by rw [c.len]; exact Nat.le_refl _), List.take_of_length_le (by rw [c.len]; exact Nat.le_refl _)]
    have h2 : (c.enc x ++ cellsT c l).drop c.sz = cellsT c l := by rw [List.drop_append, List.drop_eq_nil_of_le (by rw [c.len]; exact Nat.le_refl _), c.len]; simp
    rw [h, List.length_cons]
    simp only [decN, h1, h2, c.edc, decN_T c l, Option.bind_some]
/-- a list, out of its datum -/
def decL {α : Type} (c : Enc α) : D → Option (List α)
  | .lst n cs => decN c c.sz n cs
  | _ => none
theorem decL_ok {α : Type} {c : Enc α} {d : D} {l : List α} (h : decL c d = some l) : d = lstT c l := by
  unfold decL at h
  split at h
  · obtain ⟨e1, e2⟩ := decN_ok c c.sz rfl _ _ _ h
    rw [e1, e2]; rfl
  · cases h
theorem decL_T {α : Type} (c : Enc α) (l : List α) : decL c (lstT c l) = some l := decN_T c l
def decLs {α : Type} (c : Enc α) : List D → Option (List α)
  | [d] => decL c d
  | _ => none
/-- a list as an element -/
def cL {α : Type} (c : Enc α) : Enc (List α) where
  sz := 1
  enc l := [lstT c l]
  dec := decLs c
  len _ := rfl
  pos := by decide
  dcd := by
    intro xs x h
    unfold decLs at h
    split at h
    · rw [decL_ok h]
    · cases h
  edc l := decL_T c l
theorem cL_enc {α : Type} (c : Enc α) (l : List α) : (cL c).enc l = [lstT c l] := rfl
theorem cL_dec {α : Type} (c : Enc α) (l : List α) : (cL c).dec [lstT c l] = some l := decL_T c l
theorem decN_0 {α : Type} (c : Enc α) (s : Nat) : decN c s 0 [] = some [] := rfl
theorem decN_s {α : Type} (c : Enc α) (s n : Nat) (xs : List D) : decN c s (n + 1) xs = (c.dec (xs.take s)).bind fun x => (decN c s n (xs.drop s)).bind fun l => some (x :: l) := rfl
/-- rows of elements of type e -/
theorem lit_T {α : Type} (c : Enc α) (e s : Nat) (hs : s = c.sz) (n : Nat) (xs : List D) : litRow e s n xs = (decN c s n xs).elim (O.row e s n (some n) xs) fun l => rowT c e (some n) l := by
  cases h : decN c s n xs with
  | none => rfl
  | some l =>
    obtain ⟨e1, e2⟩ := decN_ok c s hs n xs l h
    subst hs
    simp only [litRow, Option.elim, rowT, e1, e2]
theorem zero_T {α : Type} (c : Enc α) (e s : Nat) (hs : s = c.sz) (zs : List D) (z : α) (hz : c.dec zs = some z) (n cap : Nat) : zeroRow e s n cap zs = rowT c e (some cap) (List.replicate n z) := by
  subst hs
  exact row_rep c e (some cap) n zs z hz
def rRow {α : Type} (c : Enc α) (e s : Nat) (hs : s = c.sz) (zs : List D) (z : α) (hz : c.dec zs = some z) := And.intro (lit_T c e s hs) (zero_T c e s hs zs z hz)
theorem toNat_cast (n : Nat) : (n : Int).toNat = n := Int.toNat_natCast n
theorem cI_enc (x : Int) : cI.enc x = [.int .i64 x] := rfl
theorem cI_dec (x : Int) : cI.dec [.int .i64 x] = some x := rfl
theorem cS_enc (x : List UInt8) : cS.enc x = [sD x] := rfl
theorem cS_dec (x : List UInt8) : cS.dec [sD x] = some x := rfl
theorem elim_some {α β : Type} (b : β) (f : α → β) (x : α) : (some x).elim b f = f x := rfl
theorem app_cons {α : Type} (a : α) (l r : List α) : (a :: l) ++ r = a :: (l ++ r) := rfl
theorem app_nil {α : Type} (r : List α) : [] ++ r = r := rfl
theorem bind_some' {α β : Type} (x : α) (f : α → Option β) : (some x).bind f = f x := rfl
theorem bind_none' {α β : Type} (f : α → Option β) : (none : Option α).bind f = none := rfl
theorem bind_bind {α β γ : Type} (x : Option α) (f : α → Option β) (g : β → Option γ) : (x.bind f).bind g = x.bind fun y => (f y).bind g := Option.bind_assoc ..
def rI := And.intro (rKind cI 1 rfl) (And.intro cI_enc cI_dec)
def rB := And.intro (rKind cB 1 rfl) (And.intro (fun b : Bool => (rfl : cB.enc b = [.bool b])) (fun b : Bool => (rfl : cB.dec [.bool b] = some b)))
def rLI := And.intro (rKind (cL cI) 1 rfl) (And.intro (cL_enc cI) (cL_dec cI))
def rS := And.intro (rKind cS 1 rfl) (And.intro cS_enc cS_dec)
/-- the end of a call, in plain terms -/
inductive Res (α : Type) where
  | ok (a : α)
  | pan (x : D)
def Res.on {α β : Type} (r : Res α) (f : α → Option β) (g : D → Option β) : Option β := match r with
  | .ok a => f a
  | .pan x => g x
theorem on_ok {α β : Type} (a : α) (f : α → Option β) (g : D → Option β) : (Res.ok a).on f g = f a := rfl
theorem on_pan {α β : Type} (x : D) (f : α → Option β) (g : D → Option β) : (Res.pan x : Res α).on f g = g x := rfl
theorem on_bind {α β γ : Type} (r : Res α) (f : α → Option β) (g : D → Option β) (h : β → Option γ) : (r.on f g).bind h = r.on (fun a => (f a).bind h) (fun x => (g x).bind h) := by cases r <;> rfl
theorem dR_on {α : Type} (ob : Nat → Ob) (d : Nat) (ls ms : List Nat) (r : Res α) (f : α → Option XOut) (g : D → Option XOut) : dR ob d ls ms (r.on f g) = r.on (fun a => dR ob d ls ms (f a)) (fun x => dR ob d ls ms (g x)) := by cases r <;> rfl
theorem gOut_on {α : Type} {E : En} {k : List KJ} {st : St} (d : Option Nat) (r : Res α) (f : α → Option Out) (g : D → Option Out) (l : List SOper) : gOut E d (r.on f g) l k st = r.on (fun a => gOut E d (f a) l k st) (fun x => gOut E d (g x) l k st) := by cases r <;> rfl
theorem gOutT_on {α : Type} {E : En} {k : List KJ} {st : St} (w v T : List Nat) (d : Option Nat) (op : SOp) (r : Res α) (f : α → Option Out) (g : D → Option Out) (l : List SOper) :
    gOutT E w v d op (r.on f g) l T k st = r.on (fun a => gOutT E w v d op (f a) l T k st) (fun x => gOutT E w v d op (g x) l T k st) := by cases r <;> rfl
-- the end of a call, without the rows' capacities
mutual
def ncX : X → X
  | .own e s n _ cells lk => .own e s n none cells lk
  | .box xs => .box (ncXs xs)
  | .agg xs => .agg (ncXs xs)
  | .tup xs => .tup (ncXs xs)
  | .d x => .d x
  | .nil => .nil
def ncXs : List X → List X
  | [] => []
  | x :: xs => ncX x :: ncXs xs
end
def nocap : XOut → XOut
  | .ret x outs => .ret (ncX x) outs
  | .pan x outs => .pan x outs
theorem nc_own {α : Type} (c : Enc α) (e : Nat) (cap : Option Nat) (lk : Bool) (l : List α) : ncX (ownT c e cap lk l) = ownT c e none lk l := by simp only [ownT, ncX]
theorem nc_d (x : D) : ncX (.d x) = .d x := by simp only [ncX]
theorem nc_nil : ncX .nil = .nil := by simp only [ncX]
theorem nc_box (xs : List X) : ncX (.box xs) = .box (ncXs xs) := by simp only [ncX]
theorem nc_agg (xs : List X) : ncX (.agg xs) = .agg (ncXs xs) := by simp only [ncX]
theorem nc_tup (xs : List X) : ncX (.tup xs) = .tup (ncXs xs) := by simp only [ncX]
theorem ncs_nil : ncXs [] = [] := by simp only [ncXs]
theorem ncs_cons (x : X) (xs : List X) : ncXs (x :: xs) = ncX x :: ncXs xs := by simp only [ncXs]
theorem nocap_ret (x : X) (outs : List (List D)) : nocap (.ret x outs) = .ret (ncX x) outs := rfl
theorem nocap_pan (x : D) (outs : List (List D)) : nocap (.pan x outs) = .pan x outs := rfl
/-- an int, wrapped round -/
def w64 (n : Int) : Int := IntKind.i64.wrap n
theorem w64_eq (n : Int) : IntKind.i64.wrap n = w64 n := rfl
/-- plain reckoning -/
def rEtc := And.intro @nc_own <| And.intro nc_d <| And.intro nc_nil <| And.intro nc_box <| And.intro nc_agg <| And.intro nc_tup <| And.intro ncs_nil <| And.intro ncs_cons <| And.intro nocap_ret <| And.intro nocap_pan <| And.intro @decN_0 <| And.intro @decN_s <| And.intro toNat_cast <| And.intro @w64_eq <| And.intro @on_ok <| And.intro @on_pan <| And.intro @on_bind <| And.intro @dR_on <| And.intro @gOut_on <| And.intro @gOutT_on <| And.intro @elim_some (And.intro @app_cons (And.intro @app_nil (And.intro @bind_some' (And.intro @bind_none' @bind_bind))))
end Go.Vm
