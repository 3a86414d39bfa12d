/- Lists of a kind, as the abstract machine's cells; rows of a kind; the machine's operations on them. -/
import Derived.Test.YtafjdofgafppgaaDoorVmCps
import Derived.KernelRfl
import Derived.Laws.Strings
set_option linter.unusedSectionVars false
set_option linter.unusedSimpArgs false
set_option linter.unusedVariables false
namespace Go.Vm

structure Enc (α : Type) where
  sz : Nat
  enc : α → List D
  dec : List D → Option α
  len : ∀ x, (enc x).length = sz
  pos : 0 < sz
  dcd : ∀ xs x, dec xs = some x → xs = enc x
  edc : ∀ x, dec (enc x) = some x
def decI : List D → Option Int
  | [.int .i64 n] => some n
  | _ => none
theorem decI_ok : ∀ xs x, decI xs = some x → xs = [D.int .i64 x] := by
  intro xs x h
  unfold decI at h
  split at h
  · cases h; rfl
  · cases h
def cI : Enc Int := ⟨1, fun n => [.int .i64 n], decI, fun _ => rfl, by decide, decI_ok, fun _ => rfl⟩
def decS : List D → Option (List UInt8)
  | [.str s] => some s.data.toList
  | _ => none
theorem decS_ok : ∀ xs x, decS xs = some x → xs = [sD x] := by
  intro xs x h
  unfold decS at h
  split at h
  · cases h; rfl
  · cases h
def cS : Enc (List UInt8) := ⟨1, fun s => [sD s], decS, fun _ => rfl, by decide, decS_ok, fun _ => rfl⟩
def decB : List D → Option Bool
  | [.bool b] => some b
  | _ => none
theorem decB_ok : ∀ xs x, decB xs = some x → xs = [D.bool x] := by
  intro xs x h
  unfold decB at h
  split at h
  · cases h; rfl
  · cases h
def cB : Enc Bool := ⟨1, fun b => [.bool b], decB, fun _ => rfl, by decide, decB_ok, fun _ => rfl⟩
def dec8 : List D → Option Int
  | [.int .u8 n] => some n
  | _ => none
theorem dec8_ok : ∀ xs x, dec8 xs = some x → xs = [D.int .u8 x] := by
  intro xs x h
  unfold dec8 at h
  split at h
  · cases h; rfl
  · cases h
/-- bytes, as numbers -/
def c8 : Enc Int := ⟨1, fun n => [.int .u8 n], dec8, fun _ => rfl, by decide, dec8_ok, fun _ => rfl⟩

def cellsT {α : Type} (c : Enc α) (l : List α) : List D := l.flatMap c.enc
def lstT {α : Type} (c : Enc α) (l : List α) : D := .lst l.length (cellsT c l)
def rowT {α : Type} (c : Enc α) (e : Nat) (cap : Option Nat) (l : List α) : O := .row e c.sz l.length cap (cellsT c l)
def ownT {α : Type} (c : Enc α) (e : Nat) (cap : Option Nat) (lk : Bool) (l : List α) : X := .own e c.sz l.length cap (cellsT c l) lk
def idx {α : Type} (l : List α) (i : Int) : Option α := if 0 ≤ i then l[i.toNat]? else none
/-- a byte, as a number -/
def idxB (l : List UInt8) (i : Int) : Option Int := (idx l i).map fun b => (b.toNat : Int)
def setI {α : Type} (l : List α) (i : Int) (x : α) : List α := l.set i.toNat x
def cut {α : Type} (l : List α) (lo hi : Int) : Option (List α) := if 0 ≤ lo ∧ lo ≤ hi ∧ hi ≤ l.length then some ((l.drop lo.toNat).take (hi - lo).toNat) else none

section
variable {α : Type} (c : Enc α)
theorem cellsT_len (l : List α) : (cellsT c l).length = l.length * c.sz := by
  induction l with
  | nil => simp [cellsT]
  | cons x l ih =>
    have : cellsT c (x :: l) = c.enc x ++ cellsT c l := by simp [cellsT]
    rw [this, List.length_append, ih, c.len, List.length_cons, Nat.succ_mul, Nat.add_comm]
theorem cellsT_app (l l' : List α) : cellsT c (l ++ l') = cellsT c l ++ cellsT c l' := by simp [cellsT]
theorem cellsT_drop : ∀ (l : List α) (n : Nat), (cellsT c l).drop (n * c.sz) = cellsT c (l.drop n)
  | [], n => by simp [cellsT]
  | x :: l, 0 => by simp
  | x :: l, n + 1 => by
    have : cellsT c (x :: l) = c.enc x ++ cellsT c l := by simp [cellsT]
    rw [this, List.drop_append, List.drop_eq_nil_of_le (by rw [c.len, Nat.succ_mul]; omega), c.len, List.nil_append, Nat.succ_mul, Nat.add_sub_cancel, List.drop_succ_cons, cellsT_drop l n]
theorem cellsT_take : ∀ (l : List α) (n : Nat), (cellsT c l).take (n * c.sz) = cellsT c (l.take n)
  | [], n => by simp [cellsT]
  | x :: l, 0 => by simp [cellsT]
  | x :: l, n + 1 => by
    have h1 : cellsT c (x :: l) = c.enc x ++ cellsT c l := by simp [cellsT]
    have h2 : cellsT c (x :: l.take n) = c.enc x ++ cellsT c (l.take n) := by simp [cellsT]
    rw [h1, List.take_append, List.take_of_length_le (by rw [c.len, Nat.succ_mul]; omega), c.len, Nat.succ_mul, Nat.add_sub_cancel, List.take_succ_cons, h2, cellsT_take l n]
theorem cellsT_idx {l : List α} {n : Nat} {x : α} (h : l[n]? = some x) : (cellsT c l).drop (n * c.sz) = c.enc x ++ cellsT c (l.drop (n + 1)) := by
  rw [cellsT_drop]
  have hn : n < l.length := by
    apply Classical.byContradiction
    intro hn
    rw [List.getElem?_eq_none (by omega)] at h; cases h
  have : l.drop n = x :: l.drop (n + 1) := by
    rw [List.drop_eq_getElem_cons hn]
    rw [List.getElem?_eq_getElem hn] at h
    injection h with h; rw [h]
  rw [this]; simp [cellsT]
theorem cut_eq (l : List α) (lo hi : Int) (h : 0 ≤ lo ∧ lo ≤ hi ∧ hi ≤ l.length) :
    ((cellsT c l).drop (lo.toNat * c.sz)).take ((hi.toNat - lo.toNat) * c.sz) = cellsT c ((l.drop lo.toNat).take (hi - lo).toNat) := by
  rw [cellsT_drop, cellsT_take, show hi.toNat - lo.toNat = (hi - lo).toNat by omega]
theorem cut_len (l : List α) (lo hi : Int) (h : 0 ≤ lo ∧ lo ≤ hi ∧ hi ≤ l.length) : ((l.drop lo.toNat).take (hi - lo).toNat).length = hi.toNat - lo.toNat := by
  simp only [List.length_take, List.length_drop]; omega
end

theorem cutLo2 (n : Nat) (k k' : IntKind) (lo hi : Int) : cutLo n true true [.d (.int k lo), .d (.int k' hi)] = if 0 ≤ lo ∧ lo ≤ hi ∧ hi ≤ n then some (lo.toNat, hi.toNat) else none := by
  simp [cutLo]
theorem cutLo1 (n : Nat) (k : IntKind) (lo : Int) : cutLo n true false [.d (.int k lo)] = if 0 ≤ lo ∧ lo ≤ (n : Int) ∧ (n : Int) ≤ n then some (lo.toNat, (n : Int).toNat) else none := by
  simp [cutLo]
theorem cutLo0 (n : Nat) (k : IntKind) (hi : Int) : cutLo n false true [.d (.int k hi)] = if (0 : Int) ≤ 0 ∧ 0 ≤ hi ∧ hi ≤ (n : Int) then some ((0 : Int).toNat, hi.toNat) else none := by
  simp [cutLo]
theorem slcT {α : Type} (c : Enc α) (l : List α) (lo hi : Int) : ((if 0 ≤ lo ∧ lo ≤ hi ∧ hi ≤ (l.length : Int) then some (lo.toNat, hi.toNat) else none).bind fun (p : Nat × Nat) =>
      if p.1 * c.sz ≤ (cellsT c l).length then ok (.d (.lst (p.2 - p.1) (((cellsT c l).drop (p.1 * c.sz)).take ((p.2 - p.1) * c.sz)))) else none) = (cut l lo hi).bind fun l' => some (.val (.d (lstT c l')) []) := by
  unfold cut
  by_cases h : 0 ≤ lo ∧ lo ≤ hi ∧ hi ≤ l.length
  · rw [if_pos h, if_pos h]
    simp only [Option.bind_some, lstT, ok]
    rw [if_pos (by rw [cellsT_len]; exact Nat.mul_le_mul_right _ (by omega)), cut_eq c l lo hi h, cut_len l lo hi h]
  · rw [if_neg h, if_neg h]; rfl
theorem extract_S (l : List UInt8) (a b : Nat) (h : a ≤ b) (h' : b ≤ l.length) : (D.str ((ByteArray.mk l.toArray).extract a b)) = sD ((l.drop a).take (b - a)) := by
  unfold sD
  congr 1
  apply ByteArray.ext
  apply Array.ext'
  rw [ByteArray.data_extract]
  simp [List.take_drop]
theorem slcS (l : List UInt8) (lo hi : Int) : ((if 0 ≤ lo ∧ lo ≤ hi ∧ hi ≤ (l.length : Int) then some (lo.toNat, hi.toNat) else none).bind fun (p : Nat × Nat) =>
      ok (.d (.str ((ByteArray.mk l.toArray).extract p.1 p.2)))) = (cut l lo hi).bind fun l' => some (.val (.d (sD l')) []) := by
  unfold cut
  by_cases h : 0 ≤ lo ∧ lo ≤ hi ∧ hi ≤ l.length
  · rw [if_pos h, if_pos h]
    simp only [Option.bind_some, ok]
    rw [extract_S l lo.toNat hi.toNat (by omega) (by omega), show hi.toNat - lo.toNat = (hi - lo).toNat by omega]
  · rw [if_neg h, if_neg h]; rfl

/-! ## reading -/
section
variable {Γ : Ctx} {ob : Nat → Ob} {d : Nat} {α : Type} (c : Enc α)
theorem et_ia (l : List α) (s : Nat) (k : IntKind) (i : Int) (hs : s = c.sz) : eval Γ ob d (.ia s) [.d (lstT c l), .d (.int k i)] =
    (idx l i).bind fun x => some (.val (.cp (c.enc x ++ cellsT c (l.drop (i.toNat + 1)))) []) := by
  subst hs
  simp only [eval, evIa, lstT, idx, ok]
  by_cases h0 : 0 ≤ i
  · rw [if_pos h0]
    cases h1 : l[i.toNat]? with
    | none =>
      have : l.length ≤ i.toNat := List.getElem?_eq_none_iff.mp h1
      rw [if_neg (by omega)]; rfl
    | some x =>
      have hn : i.toNat < l.length := by
        apply Classical.byContradiction
        intro hn
        rw [List.getElem?_eq_none (by omega)] at h1; cases h1
      rw [if_pos ⟨h0, by omega, by rw [cellsT_len]; exact Nat.mul_le_mul_right _ (by omega)⟩]
      simp only [Option.bind_some, cellsT_idx c h1]
  · rw [if_neg h0, if_neg (by omega)]; rfl
theorem et_len (l : List α) : eval Γ ob d (.len false) [.d (lstT c l)] = some (.val (.d (.int .i64 l.length)) []) := rfl
theorem et_slc2 (l : List α) (s : Nat) (k k' : IntKind) (lo hi : Int) (hs : s = c.sz) : eval Γ ob d (.slc false s true true) [.d (lstT c l), .d (.int k lo), .d (.int k' hi)] =
    (cut l lo hi).bind fun l' => some (.val (.d (lstT c l')) []) := by
  subst hs
  rw [← slcT c l lo hi, ← cutLo2 l.length k k' lo hi]; rfl
theorem et_slc1 (l : List α) (s : Nat) (k : IntKind) (lo : Int) (hs : s = c.sz) : eval Γ ob d (.slc false s true false) [.d (lstT c l), .d (.int k lo)] =
    (cut l lo l.length).bind fun l' => some (.val (.d (lstT c l')) []) := by
  subst hs
  rw [← slcT c l lo l.length, ← cutLo1 l.length k lo]; rfl
theorem et_slc0 (l : List α) (s : Nat) (k : IntKind) (hi : Int) (hs : s = c.sz) : eval Γ ob d (.slc false s false true) [.d (lstT c l), .d (.int k hi)] =
    (cut l 0 hi).bind fun l' => some (.val (.d (lstT c l')) []) := by
  subst hs
  rw [← slcT c l 0 hi, ← cutLo0 l.length k hi]; rfl
theorem et_ixs (l : List UInt8) (k : IntKind) (i : Int) : eval Γ ob d .ixs [.d (sD l), .d (.int k i)] = (idxB l i).bind fun b => some (.val (.d (.int .u8 b)) []) := by
  simp only [eval, sD, idxB, idx, ok]
  have hs : (ByteArray.mk l.toArray).size = l.length := rfl
  rw [hs]
  by_cases h0 : 0 ≤ i
  · rw [if_pos h0]
    cases h1 : l[i.toNat]? with
    | none =>
      have : l.length ≤ i.toNat := List.getElem?_eq_none_iff.mp h1
      rw [if_neg (by omega)]; rfl
    | some x =>
      have hn : i.toNat < l.length := by
        apply Classical.byContradiction
        intro hn
        rw [List.getElem?_eq_none (by omega)] at h1; cases h1
      rw [if_pos ⟨h0, by omega⟩]
      simp [h1]
  · rw [if_neg h0, if_neg (by omega)]; rfl
def bytes8 (l : List Int) : List UInt8 := l.map fun n => UInt8.ofNat n.toNat
theorem bytesOf_8 : ∀ (l : List Int), bytesOf (cellsT c8 l) = some (bytes8 l)
  | [] => rfl
  | x :: l => by
    have h : cellsT c8 (x :: l) = .int .u8 x :: cellsT c8 l := rfl
    rw [h]
    simp only [bytesOf, bytesOf_8 l, Option.map_some, bytes8, List.map_cons]
theorem et_b2s (l : List Int) : eval Γ ob d .b2s [.d (lstT c8 l)] = some (.val (.d (sD (bytes8 l))) []) := by
  have h : (cellsT c8 l).length = l.length := by rw [cellsT_len]; exact Nat.mul_one _
  simp only [eval, snap, lstT, Option.bind_some, h, if_true, bytesOf_8, ok, sD]
theorem et_lenS (l : List UInt8) : eval Γ ob d (.len true) [.d (sD l)] = some (.val (.d (.int .i64 l.length)) []) := rfl
theorem et_slcS2 (l : List UInt8) (s : Nat) (k k' : IntKind) (lo hi : Int) : eval Γ ob d (.slc true s true true) [.d (sD l), .d (.int k lo), .d (.int k' hi)] =
    (cut l lo hi).bind fun l' => some (.val (.d (sD l')) []) := by
  rw [← slcS l lo hi, ← cutLo2 l.length k k' lo hi]; rfl
theorem et_slcS1 (l : List UInt8) (s : Nat) (k : IntKind) (lo : Int) : eval Γ ob d (.slc true s true false) [.d (sD l), .d (.int k lo)] =
    (cut l lo l.length).bind fun l' => some (.val (.d (sD l')) []) := by
  rw [← slcS l lo l.length, ← cutLo1 l.length k lo]; rfl
theorem et_slcS0 (l : List UInt8) (s : Nat) (k : IntKind) (hi : Int) : eval Γ ob d (.slc true s false true) [.d (sD l), .d (.int k hi)] =
    (cut l 0 hi).bind fun l' => some (.val (.d (sD l')) []) := by
  rw [← slcS l 0 hi, ← cutLo0 l.length k hi]; rfl
theorem sD_inj {a b : List UInt8} : sD a = sD b ↔ a = b := by
  constructor
  · intro h; unfold sD at h; injection h with h; injection h with h
    have := congrArg Array.toList h
    simpa using this
  · rintro rfl; rfl
theorem toList_S (l : List UInt8) : (ByteArray.mk l.toArray).toList = l := by
  rw [ByteArray.toList_eq]
end
end Go.Vm
