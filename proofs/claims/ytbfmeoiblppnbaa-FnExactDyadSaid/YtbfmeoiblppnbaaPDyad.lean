/- Two arrays: reshape, take, drop, cat, from, find, match: what the functions answer. -/
import Derived.Test.YtbfmeoiblppnbaaPBas
import Derived.Test.YtbfmeoiblppnbaaFDyad
import Derived.Test.YtbfmeoiblppnbaaVmLayer
set_option linter.unusedVariables false
set_option linter.unusedSimpArgs false
namespace Go.Vm
theorem under_neg {β : Type} {p : Prop} {x : β} (h : ¬ p) : under p x = none := if_neg h
/-- a cell that may be -/
def cellIn (x : Int) : Prop := -3000000000 ≤ x ∧ x ≤ 3000000000
theorem cellIn_of {l : List Int} (h : l.all cellOk = true) : ∀ x ∈ l, cellIn x := by
  intro x hx
  have := List.all_eq_true.1 h x hx
  simpa [cellOk, cellIn] using this
theorem arrOk_cells {s d : List Int} (h : arrOk s d = true) : (∀ x ∈ d, cellIn x) ∧ fits s = true ∧ (d.length : Int) = s.foldl stepP 1 := by
  unfold arrOk at h
  simp only [Bool.and_eq_true, decide_eq_true_eq] at h
  exact ⟨cellIn_of h.2, h.1.1, h.1.2⟩

def pre_spec_l2Bool (b : Bool) : Prop := True
def s_spec_l2Bool (b : Bool) : Int := if b = true then 1 else 0
theorem p_spec_l2Bool (b : Bool) (h : pre_spec_l2Bool b) : ∃ N, spec_l2Bool_f N b = some (s_spec_l2Bool b) := by
  refine ⟨0, ?_⟩
  unfold spec_l2Bool_f s_spec_l2Bool
  cases b <;> rfl
def pre_impl_truth (b : Bool) : Prop := True
def s_impl_truth (b : Bool) : Int := s_spec_l2Bool b
theorem p_impl_truth (b : Bool) (h : pre_impl_truth b) : ∃ N, impl_truth_f N b = some (s_impl_truth b) := by
  refine ⟨0, ?_⟩
  unfold impl_truth_f s_impl_truth s_spec_l2Bool
  cases b <;> rfl

theorem arrOk_small {s d : List Int} (h : arrOk s d = true) : small s ∧ small d ∧ s.length ≤ 3 ∧ d.length ≤ 1000 ∧ (d.length : Int) = s.foldl stepP 1 := by
  obtain ⟨h1, h2, h3⟩ := arrOk_cells h
  have h4 := fits_range h2
  have h5 : s.length ≤ 3 := by
    unfold fits at h2
    simp only [Bool.and_eq_true, decide_eq_true_eq] at h2
    exact h2.1.1
  unfold small
  omega
/-- an array, or the code of a failure -/
def tri : Except Int (List Int × List Int) → List Int × List Int × Int
  | .ok p => (p.1, p.2, 0)
  | .error c => ([], [], c)
def pans : Except Int (List Int × List Int) → Res (List Int × List Int)
  | .ok p => .ok p
  | .error c => .pan (thrown c)
theorem sz_left {s d : List Int} {n : Int} (hn : 0 ≤ n ∧ n ≤ 1048576) (c : ¬ s_laws_szArray s d n < 0) : small s ∧ small d ∧ 0 ≤ s_laws_szArray s d n ∧ s_laws_szArray s d n ≤ 1048576 := by
  unfold s_laws_szArray at c ⊢
  unfold small
  split at c
  · omega
  · split at c
    · omega
    · rename_i c1 c2
      rw [if_neg c1, if_neg c2]
      omega
theorem l_wide (L1 : List Int → Option (List Int)) (L2 : List Int → Option Int) (s : List Int) (n : Nat) (hn : n ≤ 1000) (hp : L2 s = some (n : Int)) (x : Int) (s0 d0 : List Int) (hx : idx d0 0 = some x) (s' : List Int) : ∀ (m j e : Nat), j + m = n →
    spec_l2Wide_l0 L1 L2 (m + 1 + e) s j s0 d0 s' (List.replicate j x) = some (s', List.replicate n x)
  | 0, j, e, h => by
    rw [show 0 + 1 + e = e + 1 by omega]
    simp only [spec_l2Wide_l0]
    rw [hp]
    simp only [Option.bind_some]
    rw [if_neg (by omega), show j = n by omega]
  | m + 1, j, e, h => by
    rw [show m + 1 + 1 + e = (m + 1 + e) + 1 by omega]
    simp only [spec_l2Wide_l0]
    rw [hp, hx]
    simp only [Option.bind_some]
    have e1 : List.replicate j x ++ [x] = List.replicate (j + 1) x := by rw [List.replicate_succ']
    rw [if_pos (by omega), e1, if_pos (room_small (by unfold small; simp; omega)), succ_w (n := n) (by omega) (by rw [big_eq]; omega)]
    exact l_wide L1 L2 s n hn hp x s0 d0 hx s' m (j + 1) e (by omega)
def pre_spec_l2Wide (s d a : List Int) : Prop := small a ∧ fits a = true ∧ d.length = 1
def s_spec_l2Wide (s d a : List Int) : List Int × List Int := (a, List.replicate (a.foldl stepP 1).toNat (d.headD 0))
theorem p_spec_l2Wide (L1 : List Int → Option (List Int)) (h1 : ∀ l, pre_spec_l2Copy l → L1 l = some (s_spec_l2Copy l)) (L2 : List Int → Option Int) (h2 : ∀ l, pre_spec_l1Product l → L2 l = some (s_spec_l1Product l))
    (s d a : List Int) (h : pre_spec_l2Wide s d a) : ∃ N, spec_l2Wide_f L1 L2 N s d a = some (s_spec_l2Wide s d a) := by
  obtain ⟨h3, h4, h5⟩ := h
  have hr := fits_range h4
  obtain ⟨x, rfl⟩ : ∃ x, d = [x] := by
    cases d with
    | nil => simp at h5
    | cons x d => simp at h5; subst h5; exact ⟨x, rfl⟩
  refine ⟨(a.foldl stepP 1).toNat + 1, ?_⟩
  unfold spec_l2Wide_f s_spec_l2Wide
  rw [h1 _ h3]
  simp only [Option.bind_some, s_spec_l2Copy]
  exact l_wide L1 L2 a (a.foldl stepP 1).toNat (by omega) (by rw [h2 _ h3]; unfold s_spec_l1Product; congr 1; omega) x s [x] rfl a (a.foldl stepP 1).toNat 0 0 (by omega)

theorem l_same (a b : List Int) (ha : small a) (hab : a.length = b.length) : ∀ (r t : List Int) (j e : Nat), a.drop j = r → b.drop j = t → spec_l2Same_l0 (r.length + 1 + e) a b j = some (decide (r = t))
  | [], t, j, e, hd, hd' => by
    have h := at_nil hd
    rw [show ([] : List Int).length + 1 + e = e + 1 by simp; omega]
    simp only [spec_l2Same_l0]
    have : t = [] := by rw [← hd']; exact List.drop_eq_nil_of_le (by omega)
    rw [if_neg h, this]; rfl
  | x :: r, t, j, e, hd, hd' => by
    obtain ⟨h1, h2, h3, h4, h5, h6⟩ := at_cons hd
    have hb : a.length ≤ big := by unfold small at ha; rw [big_eq]; omega
    cases t with
    | nil => have := at_nil hd'; omega
    | cons y t =>
      obtain ⟨g1, g2, g3, g4, g5, g6⟩ := at_cons hd'
      rw [show (x :: r).length + 1 + e = (r.length + 1 + e) + 1 by simp; omega]
      simp only [spec_l2Same_l0]
      rw [if_pos h2, h3, g3]
      simp only [Option.bind_some]
      rw [succ_w h1 hb, l_same a b ha hab r t (j + 1) e h5 g5]
      by_cases c : x = y
      · rw [if_pos c]; simp [c]
      · rw [if_neg c]; simp [c]
def pre_spec_l2Same (a b : List Int) : Prop := small a
def s_spec_l2Same (a b : List Int) : Bool := decide (a = b)
theorem p_spec_l2Same (a b : List Int) (h : pre_spec_l2Same a b) : ∃ N, spec_l2Same_f N a b = some (s_spec_l2Same a b) := by
  refine ⟨a.length + 1, ?_⟩
  unfold spec_l2Same_f s_spec_l2Same
  by_cases c : (a.length : Int) = b.length
  · rw [if_pos c]
    exact l_same a b h (by omega) a b 0 0 rfl rfl
  · rw [if_neg c]
    have : ¬ a = b := by rintro rfl; exact c rfl
    simp [this]
theorem one_cell {s d : List Int} (h : arrOk s d = true) (h0 : s.length = 0) : ∃ x, d = [x] ∧ cellIn x := by
  obtain ⟨h1, h2, h3, h4, h5⟩ := arrOk_small h
  have : s = [] := List.eq_nil_of_length_eq_zero h0
  subst this
  simp only [List.foldl_nil] at h5
  cases d with
  | nil => simp at h5
  | cons x d =>
    simp only [List.length_cons] at h5
    have : d = [] := List.eq_nil_of_length_eq_zero (by omega)
    subst this
    exact ⟨x, rfl, (arrOk_cells h).1 x (by simp)⟩
def prodI : List Int → Int
  | [] => 1
  | x :: l => x * prodI l
theorem prodI_nonneg : ∀ {l : List Int}, l.all axOk = true → 0 ≤ prodI l
  | [], _ => by simp [prodI]
  | x :: l, h => by
    simp only [List.all_cons, Bool.and_eq_true, axOk, decide_eq_true_eq] at h
    exact Int.mul_nonneg h.1.1 (prodI_nonneg h.2)
theorem foldW : ∀ (l : List Int) (p B : Int), 0 ≤ p → p ≤ B → B * 1000 ^ l.length ≤ 1000000000 → l.all axOk = true → l.foldl stepW p = p * prodI l
  | [], p, B, h0, hB, hm, ha => by simp [prodI]
  | x :: l, p, B, h0, hB, hm, ha => by
    simp only [List.all_cons, Bool.and_eq_true, axOk, decide_eq_true_eq] at ha
    obtain ⟨⟨x0, x1⟩, ha⟩ := ha
    have hB0 : 0 ≤ B := Int.le_trans h0 hB
    have hp1 : p * x ≤ B * 1000 := Int.mul_le_mul hB x1 x0 hB0
    have hp0 : 0 ≤ p * x := Int.mul_nonneg h0 x0
    have hm' : (B * 1000) * 1000 ^ l.length ≤ 1000000000 := by
      rw [List.length_cons, Int.pow_succ, Int.mul_comm (1000 ^ l.length) 1000, ← Int.mul_assoc] at hm
      exact hm
    have hpow : (1 : Int) ≤ 1000 ^ l.length := Int.pow_pos (by omega)
    have hBs : B * 1000 ≤ 1000000000 := by
      have := Int.mul_le_mul_of_nonneg_left hpow (show 0 ≤ B * 1000 by omega)
      omega
    simp only [List.foldl_cons]
    have e1 : stepW p x = p * x := by unfold stepW; exact w64_in (by omega)
    rw [e1, foldW l (p * x) (B * 1000) hp0 hp1 hm' ha, prodI, Int.mul_assoc]
theorem fits_iff (l : List Int) : fits l = true ↔ l.length ≤ 3 ∧ l.all axOk = true ∧ prodI l ≤ 1000 := by
  unfold fits
  simp only [Bool.and_eq_true, decide_eq_true_eq, and_assoc]
  refine and_congr_right fun hl => and_congr_right fun ha => ?_
  have e : l.foldl stepW 1 = prodI l := by
    rw [foldW l 1 1 (by omega) (by omega) ?_ ha, Int.one_mul]
    rw [Int.one_mul]
    have : l.length = 0 ∨ l.length = 1 ∨ l.length = 2 ∨ l.length = 3 := by omega
    rcases this with h | h | h | h <;> rw [h] <;> decide
  have hc := fold_fits l hl ha
  rw [e] at hc
  constructor
  · intro h
    apply Classical.byContradiction
    intro hn
    have := hc.2 (by omega)
    omega
  · intro h; rw [hc.1 h]; exact h
theorem fits_prod {l : List Int} (h : fits l = true) : l.foldl stepP 1 = prodI l := by
  obtain ⟨hl, ha, hp⟩ := (fits_iff l).1 h
  have e : l.foldl stepW 1 = prodI l := by
    rw [foldW l 1 1 (by omega) (by omega) ?_ ha, Int.one_mul]
    rw [Int.one_mul]
    have : l.length = 0 ∨ l.length = 1 ∨ l.length = 2 ∨ l.length = 3 := by omega
    rcases this with h | h | h | h <;> rw [h] <;> decide
  have hc := fold_fits l hl ha
  rw [e] at hc
  exact hc.1 hp
theorem fits_cons {n : Int} {t : List Int} (h : fits (n :: t) = true) : 0 ≤ n ∧ n ≤ 1000 ∧ 0 ≤ prodI t ∧ n * prodI t ≤ 1000 ∧ t.length ≤ 2 := by
  obtain ⟨hl, ha, hp⟩ := (fits_iff _).1 h
  simp only [List.all_cons, Bool.and_eq_true, axOk, decide_eq_true_eq] at ha
  simp only [List.length_cons] at hl
  exact ⟨ha.1.1, ha.1.2, prodI_nonneg ha.2, hp, by omega⟩
theorem fits_tail {n : Int} {t : List Int} (h : fits (n :: t) = true) (hn : 1 ≤ n) : fits t = true := by
  obtain ⟨h1, h2, h3, h4, h5⟩ := fits_cons h
  obtain ⟨hl, ha, hp⟩ := (fits_iff _).1 h
  simp only [List.all_cons, Bool.and_eq_true] at ha
  refine (fits_iff t).2 ⟨by omega, ha.2, ?_⟩
  have := Int.mul_le_mul_of_nonneg_right hn h3
  omega
theorem fits_le {n k : Int} {t : List Int} (h : fits (n :: t) = true) (hk : 0 ≤ k ∧ k ≤ n) : fits (k :: t) = true := by
  obtain ⟨h1, h2, h3, h4, h5⟩ := fits_cons h
  obtain ⟨hl, ha, hp⟩ := (fits_iff _).1 h
  simp only [List.all_cons, Bool.and_eq_true, axOk, decide_eq_true_eq] at ha
  refine (fits_iff _).2 ⟨by simpa using hl, ?_, ?_⟩
  · simp only [List.all_cons, Bool.and_eq_true, axOk, decide_eq_true_eq]
    exact ⟨by omega, ha.2⟩
  · have := Int.mul_le_mul_of_nonneg_right hk.2 h3
    rw [prodI]; omega
theorem mk_arr {s d : List Int} (h : fits s = true) (hl : (d.length : Int) = prodI s) (hc : ∀ x ∈ d, cellIn x) : arrOk s d = true := by
  unfold arrOk
  rw [h, fits_prod h]
  simp only [hl, decide_true, Bool.and_self, Bool.true_and, List.all_eq_true]
  intro x hx
  have := hc x hx
  simpa [cellOk, cellIn] using this
theorem arr_len {s d : List Int} (h : arrOk s d = true) : (d.length : Int) = prodI s := by
  obtain ⟨h1, h2, h3⟩ := arrOk_cells h
  rw [h3, fits_prod h2]

def nthRow (d : List Int) (w i : Nat) : List Int := (d.drop (i * w)).take w
theorem nthRow_len {d : List Int} {w i : Nat} (h : (i + 1) * w ≤ d.length) : (nthRow d w i).length = w := by
  unfold nthRow
  rw [Nat.add_mul, Nat.one_mul] at h
  simp only [List.length_take, List.length_drop]
  omega
theorem nthRow_in {d : List Int} {w i : Nat} {p : Int → Prop} (h : ∀ x ∈ d, p x) : ∀ x ∈ nthRow d w i, p x :=
  fun x hx => h x (List.mem_of_mem_drop (List.mem_of_mem_take hx))
theorem nthRow_get {d : List Int} {w i j : Nat} (hj : j < w) : (nthRow d w i)[j]? = d[i * w + j]? := by
  unfold nthRow
  rw [List.getElem?_take, if_pos hj, List.getElem?_drop]
theorem cut_tail (n : Int) (t : List Int) : cut (n :: t) 1 ((n :: t).length : Int) = some t := by
  unfold cut
  rw [if_pos (by simp only [List.length_cons]; omega)]
  simp
def pre_spec_l2Made (s d : List Int) : Prop := small s
def s_spec_l2Made (s d : List Int) : Alt (List Int × List Int) (List Int × List Int) := if fits s = true then .b (s, d) else .a (s, d)
theorem p_spec_l2Made (L : List Int → Option Bool) (hL : ∀ l, pre_spec_l1Fits l → L l = some (s_spec_l1Fits l)) (s d : List Int) (h : pre_spec_l2Made s d) : ∃ N, spec_l2Made_f L N s d = some (s_spec_l2Made s d) := by
  refine ⟨0, ?_⟩
  unfold spec_l2Made_f s_spec_l2Made
  rw [hL _ h]
  simp only [Option.bind_some, s_spec_l1Fits]
  cases fits s <;> simp

/-- a row that there is -/
def pre_spec_l2Row (s d : List Int) (i : Int) : Prop := small d ∧ ∃ n t, s = n :: t ∧ fits t = true ∧ 0 ≤ i ∧ (i.toNat + 1) * (prodI t).toNat ≤ d.length
def s_spec_l2Row (s d : List Int) (i : Int) : List Int × List Int := (s.tail, nthRow d (prodI s.tail).toNat i.toNat)
theorem cut_row {d : List Int} (hd : small d) {w i : Nat} (h : (i + 1) * w ≤ d.length) : cut d ((i : Int) * w) ((i : Int) * w + w) = some (nthRow d w i) := by
  unfold cut nthRow
  have e : (i : Int) * w = ((i * w : Nat) : Int) := by simp
  rw [Nat.add_mul, Nat.one_mul] at h
  rw [e, if_pos (by omega), Int.toNat_natCast, show (((i * w : Nat) : Int) + w - ((i * w : Nat) : Int)).toNat = w by omega]
theorem p_spec_l2Row (L1 : List Int → Option (List Int)) (h1 : ∀ l, pre_spec_l2Copy l → L1 l = some (s_spec_l2Copy l)) (L2 : List Int → Option Int) (h2 : ∀ l, pre_spec_l1Product l → L2 l = some (s_spec_l1Product l))
    (s d : List Int) (i : Int) (h : pre_spec_l2Row s d i) : ∃ N, spec_l2Row_f L1 L2 N s d i = some (s_spec_l2Row s d i) := by
  obtain ⟨hd, n, t, rfl, ht, hi, hl⟩ := h
  obtain ⟨i, rfl⟩ := Int.eq_ofNat_of_zero_le hi
  obtain ⟨w1, w2, w3⟩ := (fits_iff t).1 ht
  obtain ⟨w, hw⟩ := Int.eq_ofNat_of_zero_le (prodI_nonneg w2)
  have hts : small t := by unfold small; omega
  have hds : d.length ≤ 1048576 := hd
  refine ⟨0, ?_⟩
  unfold spec_l2Row_f s_spec_l2Row
  simp only [List.tail_cons]
  rw [cut_tail]
  simp only [Option.bind_some]
  rw [h1 _ hts]
  simp only [Option.bind_some, s_spec_l2Copy]
  rw [h2 _ hts]
  simp only [Option.bind_some, s_spec_l1Product, fits_prod ht]
  rw [hw] at hl ⊢
  simp only [Int.toNat_natCast, Int.ofNat_eq_natCast] at hl ⊢
  have hl' := hl
  rw [Nat.add_mul, Nat.one_mul] at hl'
  have e : (i : Int) * w = ((i * w : Nat) : Int) := by simp
  rw [w64_in (n := (i : Int) * w) (by omega), w64_in (by omega), cut_row hd hl]
  simp only [Option.bind_some]
  rw [h1 _ (by show small _; unfold small; rw [nthRow_len hl]; omega)]
  rfl

def pre_slices_Grow___int_int_ (n : Int) : Prop := 0 ≤ n ∧ n ≤ 1048576
def s_slices_Grow___int_int_ (n : Int) : Res (List Int) := .ok []
theorem p_slices_Grow___int_int_ (n : Int) (h : pre_slices_Grow___int_int_ n) : ∃ N, slices_Grow___int_int__f N n = some (s_slices_Grow___int_int_ n) := by
  obtain ⟨h1, h2⟩ := h
  refine ⟨0, ?_⟩
  unfold slices_Grow___int_int__f s_slices_Grow___int_int_
  rw [if_neg (by omega), show w64 0 = 0 from w64_in (by omega), w64_in (by omega), if_pos (show zOk 8 (n - 0) by unfold zOk roomB; omega)]
  split <;> rfl
def pre_slices_Concat___int_int_ (l : List (List Int)) : Prop := ∃ a b, l = [a, b] ∧ a.length ≤ 3 ∧ b.length ≤ 3
def s_slices_Concat___int_int_ (l : List (List Int)) : Res (List Int) := .ok l.flatten
theorem p_slices_Concat___int_int_ (L : Int → Option (Res (List Int))) (hL : ∀ n, pre_slices_Grow___int_int_ n → L n = some (s_slices_Grow___int_int_ n)) (l : List (List Int)) (h : pre_slices_Concat___int_int_ l) :
    ∃ N, slices_Concat___int_int__f L N l = some (s_slices_Concat___int_int_ l) := by
  obtain ⟨a, b, rfl, ha, hb⟩ := h
  refine ⟨3, ?_⟩
  unfold slices_Concat___int_int__f s_slices_Concat___int_int_
  have w1 : w64 (0 + 1) = 1 := w64_in (by omega)
  have w2 : w64 (1 + 1) = 2 := w64_in (by omega)
  have l1 : w64 (0 + (a.length : Int)) = a.length := by rw [w64_in (by omega)]; omega
  have l2 : w64 ((a.length : Int) + b.length) = a.length + b.length := w64_in (by omega)
  have ln : (([a, b] : List (List Int)).length : Int) = 2 := rfl
  have i0 : idx [a, b] 0 = some a := rfl
  have i1 : idx [a, b] 1 = some b := rfl
  rw [ln]
  simp only [slices_Concat___int_int__l0]
  rw [if_pos (by omega), i0]
  simp only [Option.bind_some]
  rw [l1, w1, if_neg (by omega), if_pos (by omega), i1]
  simp only [Option.bind_some]
  rw [l2, w2, if_neg (by omega), if_neg (by omega), hL _ ⟨by omega, by omega⟩]
  simp only [Option.bind_some, s_slices_Grow___int_int_, Res.on]
  rw [ln]
  simp only [slices_Concat___int_int__l1]
  rw [if_pos (by omega), i0]
  simp only [Option.bind_some]
  rw [if_pos (room_small (by unfold small; simp; omega)), w1, if_pos (by omega), i1]
  simp only [Option.bind_some]
  rw [if_pos (room_small (by unfold small; simp; omega)), w2, if_neg (by omega)]
  simp
-- vectors, axes
def pre_spec_l2Vector (l : List Int) : Prop := small l
def s_spec_l2Vector (l : List Int) : List Int × List Int := ([(l.length : Int)], l)
theorem p_spec_l2Vector (L : List Int → Option (List Int)) (hL : ∀ l, pre_spec_l2Copy l → L l = some (s_spec_l2Copy l)) (l : List Int) (h : pre_spec_l2Vector l) : ∃ N, spec_l2Vector_f L N l = some (s_spec_l2Vector l) := by
  refine ⟨0, ?_⟩
  unfold spec_l2Vector_f s_spec_l2Vector
  rw [hL _ h]; rfl
def pre_impl_vectorOf (l : List Int) : Prop := small l
def s_impl_vectorOf (l : List Int) : List Int × List Int := ([(l.length : Int)], l)
theorem p_impl_vectorOf (L : List Int → Option (List Int)) (hL : ∀ l, pre_slices_Clone___int_int_ l → L l = some (s_slices_Clone___int_int_ l)) (l : List Int) (h : pre_impl_vectorOf l) : ∃ N, impl_vectorOf_f L N l = some (s_impl_vectorOf l) := by
  refine ⟨0, ?_⟩
  unfold impl_vectorOf_f s_impl_vectorOf
  rw [hL _ h]; rfl
/-- with axes -/
def ax (s d : List Int) : List Int × List Int := if s.length = 0 then ([(d.length : Int)], d) else (s, d)
def axA (s d : List Int) : Alt (List Int × List Int) (List Int × List Int) := if s.length = 0 then .a (ax s d) else .b (ax s d)
theorem axA_or (s d : List Int) : axA s d = .a (ax s d) ∨ axA s d = .b (ax s d) := by
  unfold axA; split <;> simp
theorem ax_d (s d : List Int) : (ax s d).2 = d := by unfold ax; split <;> rfl
theorem ax_ok {s d : List Int} (h : arrOk s d = true) : ∃ n t, (ax s d).1 = n :: t ∧ arrOk (n :: t) d = true := by
  cases s with
  | nil =>
    obtain ⟨x, rfl, hx⟩ := one_cell h rfl
    refine ⟨1, [], rfl, mk_arr (by decide) (by simp [prodI]) ?_⟩
    intro y hy; simp at hy; subst hy; exact hx
  | cons n t => exact ⟨n, t, rfl, h⟩
def pre_spec_l2Axes (s d : List Int) : Prop := small d
def s_spec_l2Axes (s d : List Int) : Alt (List Int × List Int) (List Int × List Int) := axA s d
theorem p_spec_l2Axes (L : List Int → Option (List Int × List Int)) (hL : ∀ l, pre_spec_l2Vector l → L l = some (s_spec_l2Vector l)) (s d : List Int) (h : pre_spec_l2Axes s d) : ∃ N, spec_l2Axes_f L N s d = some (s_spec_l2Axes s d) := by
  refine ⟨0, ?_⟩
  unfold spec_l2Axes_f s_spec_l2Axes axA ax
  by_cases c : s.length = 0
  · rw [if_pos (by omega), if_pos c, if_pos c, hL _ h]; rfl
  · rw [if_neg (by omega), if_neg c, if_neg c]
def pre_impl_asRows (s d : List Int) : Prop := small d
def s_impl_asRows (s d : List Int) : Alt (List Int × List Int) (List Int × List Int) := axA s d
theorem p_impl_asRows (L : List Int → Option (List Int × List Int)) (hL : ∀ l, pre_impl_vectorOf l → L l = some (s_impl_vectorOf l)) (s d : List Int) (h : pre_impl_asRows s d) : ∃ N, impl_asRows_f L N s d = some (s_impl_asRows s d) := by
  refine ⟨0, ?_⟩
  unfold impl_asRows_f s_impl_asRows axA ax
  by_cases c : s.length = 0
  · rw [if_pos (by omega), if_pos c, if_pos c, hL _ h]; rfl
  · rw [if_neg (by omega), if_neg c, if_neg c]

-- rows put together
def pre_spec_l2Stack (t : List Int) (rows : List TArray) : Prop := t.length ≤ 3 ∧ rows.length ≤ 1000 ∧ small (rows.flatMap (·.Data))
def s_spec_l2Stack (t : List Int) (rows : List TArray) : List Int × List Int × Int := if fits ((rows.length : Int) :: t) = true then ((rows.length : Int) :: t, rows.flatMap (·.Data), 0) else ([], [], 6)
theorem l_stack (L : List Int → List Int → Option (Alt (List Int × List Int) (List Int × List Int))) (hL : ∀ s d, pre_spec_l2Made s d → L s d = some (s_spec_l2Made s d)) (t : List Int) (rows : List TArray) (ht : t.length ≤ 3) (hr : rows.length ≤ 1000) : ∀ (r : List TArray) (j e : Nat) (acc : List Int), rows.drop j = r → small (acc ++ r.flatMap (·.Data)) →
    spec_l2Stack_l0 L (r.length + 1 + e) t rows j acc = some (if fits ((rows.length : Int) :: t) = true then ((rows.length : Int) :: t, acc ++ r.flatMap (·.Data), 0) else ([], [], 6))
  | [], j, e, acc, hd, hs => by
    rw [show ([] : List TArray).length + 1 + e = e + 1 by simp; omega]
    simp only [spec_l2Stack_l0]
    rw [if_neg (at_nil hd), if_pos (by unfold room roomB; omega), hL _ _ (by unfold pre_spec_l2Made small; simp only [List.length_cons]; omega)]
    simp only [Option.bind_some, s_spec_l2Made, List.flatMap_nil, List.append_nil]
    cases fits ((rows.length : Int) :: t) <;> rfl
  | x :: r, j, e, acc, hd, hs => by
    obtain ⟨h1, h2, h3, h4, h5, h6⟩ := at_cons hd
    rw [show (x :: r).length + 1 + e = (r.length + 1 + e) + 1 by simp; omega]
    simp only [spec_l2Stack_l0]
    rw [List.flatMap_cons, ← List.append_assoc] at hs
    rw [if_pos h2, h3]
    simp only [Option.bind_some]
    rw [if_pos (room_small (by unfold small at *; simp only [List.length_append] at *; omega)), succ_w h1 (by rw [big_eq]; omega), l_stack L hL t rows ht hr r (j + 1) e _ h5 hs, List.flatMap_cons, ← List.append_assoc]
theorem p_spec_l2Stack (L : List Int → List Int → Option (Alt (List Int × List Int) (List Int × List Int))) (hL : ∀ s d, pre_spec_l2Made s d → L s d = some (s_spec_l2Made s d)) (t : List Int) (rows : List TArray) (h : pre_spec_l2Stack t rows) :
    ∃ N, spec_l2Stack_f L N t rows = some (s_spec_l2Stack t rows) :=
  ⟨rows.length + 1, l_stack L hL t rows h.1 h.2.1 rows 0 0 [] rfl h.2.2⟩

-- rows from one place on
def rowZ (d : List Int) (w : Nat) (n k : Int) : List Int := if 0 ≤ k ∧ k < n then nthRow d w k.toNat else List.replicate w 0
def spanL (d : List Int) (w : Nat) (n : Int) : Int → Nat → List Int
  | _, 0 => []
  | k, m + 1 => rowZ d w n k ++ spanL d w n (k + 1) m
def spanT (t d : List Int) (w : Nat) (n : Int) : Int → Nat → List TArray
  | _, 0 => []
  | k, m + 1 => ⟨t, rowZ d w n k⟩ :: spanT t d w n (k + 1) m
theorem spanT_data (t d : List Int) (w : Nat) (n : Int) : ∀ (m : Nat) (k : Int), (spanT t d w n k m).flatMap (·.Data) = spanL d w n k m
  | 0, k => rfl
  | m + 1, k => by simp only [spanT, spanL, List.flatMap_cons, spanT_data t d w n m]
theorem spanT_len (t d : List Int) (w : Nat) (n : Int) : ∀ (m : Nat) (k : Int), (spanT t d w n k m).length = m
  | 0, k => rfl
  | m + 1, k => by simp only [spanT, List.length_cons, spanT_len t d w n m]
theorem row_fits {d : List Int} {w : Nat} {n k : Int} (hd : (d.length : Int) = n * w) (h0 : 0 ≤ k) (h1 : k < n) : (k.toNat + 1) * w ≤ d.length := by
  obtain ⟨k, rfl⟩ := Int.eq_ofNat_of_zero_le h0
  obtain ⟨n, rfl⟩ := Int.eq_ofNat_of_zero_le (show 0 ≤ n by omega)
  have e : d.length = n * w := by exact_mod_cast hd
  rw [e]
  exact Nat.mul_le_mul_right _ (by simp only [Int.toNat_natCast, Int.ofNat_eq_natCast] at *; omega)
theorem rowZ_len {d : List Int} {w : Nat} {n : Int} (hd : (d.length : Int) = n * w) (k : Int) : (rowZ d w n k).length = w := by
  unfold rowZ
  split
  · rename_i h; exact nthRow_len (row_fits hd h.1 h.2)
  · simp
theorem spanL_len {d : List Int} {w : Nat} {n : Int} (hd : (d.length : Int) = n * w) : ∀ (m : Nat) (k : Int), (spanL d w n k m).length = m * w
  | 0, k => by simp [spanL]
  | m + 1, k => by
    simp only [spanL, List.length_append, rowZ_len hd, spanL_len hd m]
    rw [Nat.add_mul, Nat.one_mul]; omega
/-- rows from k on, zeros where there are none -/
def xSpan (s d : List Int) (k : Int) (c : Nat) : Except Int (List Int × List Int) :=
  if fits ((c : Int) :: s.tail) = true then .ok ((c : Int) :: s.tail, spanL d (prodI s.tail).toNat (s.headD 0) k c) else .error 6
theorem xSpan_cons (n : Int) (t d : List Int) (k : Int) (c : Nat) : xSpan (n :: t) d k c = if fits ((c : Int) :: t) = true then .ok ((c : Int) :: t, spanL d (prodI t).toNat n k c) else .error 6 := rfl
section
variable (L1 : List Int → Option Bool) (h1 : ∀ l, pre_spec_l1Fits l → L1 l = some (s_spec_l1Fits l))
  (L2 : List Int → List Int → Int → Option (List Int × List Int)) (h2 : ∀ s d i, pre_spec_l2Row s d i → L2 s d i = some (s_spec_l2Row s d i))
  (L3 : List Int → List Int → List Int → Option (List Int × List Int)) (h3 : ∀ s d a, pre_spec_l2Wide s d a → L3 s d a = some (s_spec_l2Wide s d a))
  (L4 : List Int → List TArray → Option (List Int × List Int × Int)) (h4 : ∀ t rows, pre_spec_l2Stack t rows → L4 t rows = some (s_spec_l2Stack t rows))
include h2 h3 in
theorem l_span (n : Int) (t d : List Int) (w : Nat) (hw : prodI t = (w : Int)) (hd : small d) (hl : (d.length : Int) = n * w) (j : Int) (hj : j ≤ 5000000000) : ∀ (m : Nat) (k : Int) (e : Nat) (rows : List TArray), k + m = j → (0 < m → fits t = true) → -5000000000 ≤ k → rows.length + m ≤ 1000 →
    spec_l2Span_l0 L1 L2 L3 L4 (m + 1 + e) j k (n :: t) d rows = (L4 t (rows ++ spanT t d w n k m)).bind fun y => some (y.1, y.2.1, y.2.2)
  | 0, k, e, rows, hk, hf, hb, hr => by
    rw [show 0 + 1 + e = e + 1 by omega]
    simp only [spec_l2Span_l0]
    rw [if_neg (by omega), cut_tail]
    simp only [Option.bind_some, spanT, List.append_nil]
  | m + 1, k, e, rows, hk, hf, hb, hr => by
    rw [show m + 1 + 1 + e = (m + 1 + e) + 1 by omega]
    simp only [spec_l2Span_l0]
    have hft := hf (by omega)
    have hwt : (prodI t).toNat = w := by rw [hw]; rfl
    have e1 : w64 (k + 1) = k + 1 := w64_in (by omega)
    have hts : t.length ≤ 3 := ((fits_iff t).1 hft).1
    have hwide : ∀ s, L3 s [0] t = some (t, List.replicate w 0) := by
      intro s
      rw [h3 s [0] t ⟨by unfold small; omega, hft, rfl⟩]
      simp only [s_spec_l2Wide, fits_prod hft, hwt, List.headD_cons]
    have step : ∀ (r : List Int), r = rowZ d w n k → (if room 48 (rows ++ [({ Shape := t, Data := r } : TArray)]).length then spec_l2Span_l0 L1 L2 L3 L4 (m + 1 + e) j (k + 1) (n :: t) d (rows ++ [⟨t, r⟩]) else none) = (L4 t (rows ++ spanT t d w n k (m + 1))).bind fun y => some (y.1, y.2.1, y.2.2) := by
      intro r hr'
      subst hr'
      rw [if_pos (by unfold room roomB; simp only [List.length_append, List.length_cons, List.length_nil]; omega), l_span n t d w hw hd hl j hj m (k + 1) e _ (by omega) (fun _ => hft) (by omega) (by simp only [List.length_append, List.length_cons, List.length_nil]; omega)]
      simp only [spanT, List.append_assoc, List.cons_append, List.nil_append]
    rw [if_pos (by omega), e1]
    by_cases c0 : 0 ≤ k
    · rw [if_pos c0, show idx (n :: t) 0 = some n from rfl]
      simp only [Option.bind_some]
      by_cases c1 : k < n
      · rw [if_pos c1, h2 _ _ _ ⟨hd, n, t, rfl, hft, c0, by rw [hwt]; exact row_fits hl c0 c1⟩]
        simp only [Option.bind_some, s_spec_l2Row, List.tail_cons, hwt]
        exact step _ (by unfold rowZ; rw [if_pos ⟨c0, c1⟩])
      · rw [if_neg c1, cut_tail]
        simp only [Option.bind_some, hwide]
        exact step _ (by unfold rowZ; rw [if_neg (fun q => c1 q.2)])
    · rw [if_neg c0, cut_tail]
      simp only [Option.bind_some, hwide]
      exact step _ (by unfold rowZ; rw [if_neg (fun q => c0 q.1)])
def pre_spec_l2Span (s d : List Int) (i j : Int) : Prop := arrOk s d = true ∧ (∃ n t, s = n :: t) ∧ i ≤ j ∧ -5000000000 ≤ i ∧ j ≤ 5000000000
def s_spec_l2Span (s d : List Int) (i j : Int) : List Int × List Int × Int := tri (xSpan s d i (j - i).toNat)
theorem arr_rows {n : Int} {t d : List Int} (h : arrOk (n :: t) d = true) : ∃ w : Nat, prodI t = (w : Int) ∧ (d.length : Int) = n * w ∧ small d ∧ 0 ≤ n ∧ n ≤ 1000 ∧ t.length ≤ 2 ∧ n * w ≤ 1000 := by
  obtain ⟨b1, b2, b3, b4, b5⟩ := fits_cons (arrOk_cells h).2.1
  obtain ⟨w, hw⟩ := Int.eq_ofNat_of_zero_le b3
  have hl := arr_len h
  rw [prodI, hw] at hl
  exact ⟨w, hw, hl, (arrOk_small h).2.1, b1, b2, b5, by rw [← hl]; have := (arrOk_small h).2.2.2.1; omega⟩
include h1 h2 h3 h4 in
theorem p_spec_l2Span (s d : List Int) (i j : Int) (h : pre_spec_l2Span s d i j) : ∃ N, spec_l2Span_f L1 L2 L3 L4 N s d i j = some (s_spec_l2Span s d i j) := by
  obtain ⟨ha, ⟨n, t, rfl⟩, hij, hi, hj⟩ := h
  obtain ⟨w, hw, hl, hd, n0, n1, ht, hn⟩ := arr_rows ha
  obtain ⟨c, hc⟩ := Int.eq_ofNat_of_zero_le (show 0 ≤ j - i by omega)
  have hc' : j - i = (c : Int) := hc
  unfold spec_l2Span_f s_spec_l2Span
  rw [xSpan_cons, hc', w64_in (n := (c : Int)) (by omega), Int.toNat_natCast]
  refine ⟨c + 1, ?_⟩
  by_cases c1 : (1000 : Int) < c
  · rw [if_pos c1, if_neg (show ¬ fits ((c : Int) :: t) = true from fun q => by have := (fits_cons q).2.1; omega)]; rfl
  · rw [if_neg c1, cut_tail]
    simp only [Option.bind_some]
    rw [if_pos (by unfold room roomB; omega), h1 _ (by unfold pre_spec_l1Fits small; simp only [List.length_cons]; omega)]
    simp only [Option.bind_some, s_spec_l1Fits]
    cases hf : fits ((c : Int) :: t) with
    | false => rfl
    | true =>
      rw [if_neg (by simp)]
      have q := l_span L1 L2 h2 L3 h3 L4 n t d w hw hd hl j hj c i 0 [] (by omega) (fun q => fits_tail hf (by omega)) hi (by simp; omega)
      simp only [Nat.add_zero, List.nil_append] at q
      have hcw : c * w ≤ 1000 := by
        have := (fits_cons hf).2.2.2.1
        rw [hw] at this
        have e : ((c * w : Nat) : Int) = (c : Int) * w := by simp
        omega
      rw [q, h4 _ _ ⟨by omega, by rw [spanT_len]; omega, by unfold small; rw [spanT_data, spanL_len hl]; omega⟩]
      unfold s_spec_l2Stack
      rw [spanT_len, spanT_data, hf, if_pos rfl, if_pos rfl, hw]
      rfl
end
-- take and drop
def xTake (f : Int) (s d s' d' : List Int) : Except Int (List Int × List Int) :=
  if s.length = 0 then
    (if f = 2 then (if d.headD 0 < 0 then xSpan (ax s' d').1 d' ((ax s' d').1.headD 0 + d.headD 0) (-(d.headD 0)).toNat else xSpan (ax s' d').1 d' 0 (d.headD 0).toNat)
     else if (ax s' d').1.headD 0 ≤ d.headD 0 then xSpan (ax s' d').1 d' 0 0
     else if (ax s' d').1.headD 0 ≤ -(d.headD 0) then xSpan (ax s' d').1 d' 0 0
     else if d.headD 0 < 0 then xSpan (ax s' d').1 d' 0 ((ax s' d').1.headD 0 + d.headD 0).toNat
     else xSpan (ax s' d').1 d' (d.headD 0) ((ax s' d').1.headD 0 - d.headD 0).toNat)
  else .error 2
def pre_spec_l2Take (f : Int) (s d s' d' : List Int) : Prop := arrOk s d = true ∧ arrOk s' d' = true
def s_spec_l2Take (f : Int) (s d s' d' : List Int) : List Int × List Int × Int := tri (xTake f s d s' d')
theorem tup3 {α β γ : Type} (x : Option (α × β × γ)) : (x.bind fun y => some (y.1, y.2.1, y.2.2)) = x := by cases x <;> rfl
theorem p_spec_l2Take (L1 : List Int → List Int → Option (Alt (List Int × List Int) (List Int × List Int))) (h1 : ∀ s d, pre_spec_l2Axes s d → L1 s d = some (s_spec_l2Axes s d))
    (L2 : List Int → List Int → Int → Int → Option (List Int × List Int × Int)) (h2 : ∀ s d i j, pre_spec_l2Span s d i j → L2 s d i j = some (s_spec_l2Span s d i j))
    (f : Int) (s d s' d' : List Int) (h : pre_spec_l2Take f s d s' d') : ∃ N, spec_l2Take_f L1 L2 N f s d s' d' = some (s_spec_l2Take f s d s' d') := by
  obtain ⟨ha, hb⟩ := h
  refine ⟨0, ?_⟩
  unfold spec_l2Take_f s_spec_l2Take xTake
  by_cases c : s.length = 0
  · obtain ⟨m, rfl, hm⟩ := one_cell ha c
    obtain ⟨n, t, e1, hc⟩ := ax_ok hb
    obtain ⟨w, hw, hl, hd, n0, n1, ht, hn⟩ := arr_rows hc
    obtain ⟨m1, m2⟩ := hm
    have e2 : ax s' d' = (n :: t, d') := Prod.ext e1 (ax_d s' d')
    have w1 : w64 (0 - m) = -m := by rw [w64_in (by omega)]; omega
    have w2 : w64 (n + m) = n + m := w64_in (by omega)
    have sp : ∀ i j, i ≤ j → -5000000000 ≤ i → j ≤ 5000000000 → ((L2 (n :: t) d' i j).bind fun y => some (y.1, y.2.1, y.2.2)) = some (tri (xSpan (n :: t) d' i (j - i).toNat)) := by
      intro i j q1 q2 q3
      rw [tup3, h2 _ _ _ _ ⟨hc, ⟨n, t, rfl⟩, q1, q2, q3⟩]; rfl
    rw [if_pos (by omega), if_pos c, h1 _ _ (arrOk_small hb).2.1]
    simp only [Option.bind_some, s_spec_l2Axes, e2, List.headD_cons]
    have body : (if f = 2 then (if m < 0 then (L2 (n :: t) d' (w64 (n + m)) n).bind fun y => some (y.1, y.2.1, y.2.2) else (L2 (n :: t) d' 0 m).bind fun y => some (y.1, y.2.1, y.2.2))
      else if n ≤ m then (L2 (n :: t) d' 0 0).bind fun y => some (y.1, y.2.1, y.2.2)
      else if n ≤ w64 (0 - m) then (L2 (n :: t) d' 0 0).bind fun y => some (y.1, y.2.1, y.2.2)
      else if m < 0 then (L2 (n :: t) d' 0 (w64 (n + m))).bind fun y => some (y.1, y.2.1, y.2.2)
      else (L2 (n :: t) d' m n).bind fun y => some (y.1, y.2.1, y.2.2)) = some (tri (if f = 2 then (if m < 0 then xSpan (n :: t) d' (n + m) (-m).toNat else xSpan (n :: t) d' 0 m.toNat)
        else if n ≤ m then xSpan (n :: t) d' 0 0 else if n ≤ -m then xSpan (n :: t) d' 0 0 else if m < 0 then xSpan (n :: t) d' 0 (n + m).toNat else xSpan (n :: t) d' m (n - m).toNat)) := by
      rw [w1, w2]
      by_cases c1 : f = 2
      · rw [if_pos c1, if_pos c1]
        by_cases c2 : m < 0
        · rw [if_pos c2, if_pos c2, sp _ _ (by omega) (by omega) (by omega), show n - (n + m) = -m by omega]
        · rw [if_neg c2, if_neg c2, sp _ _ (by omega) (by omega) (by omega), Int.sub_zero]
      · rw [if_neg c1, if_neg c1]
        by_cases c2 : n ≤ m
        · rw [if_pos c2, if_pos c2, sp _ _ (by omega) (by omega) (by omega)]; rfl
        · rw [if_neg c2, if_neg c2]
          by_cases c3 : n ≤ -m
          · rw [if_pos c3, if_pos c3, sp _ _ (by omega) (by omega) (by omega)]; rfl
          · rw [if_neg c3, if_neg c3]
            by_cases c4 : m < 0
            · rw [if_pos c4, if_pos c4, sp _ _ (by omega) (by omega) (by omega), Int.sub_zero]
            · rw [if_neg c4, if_neg c4, sp _ _ (by omega) (by omega) (by omega)]
    have i0 : idx (n :: t) 0 = some n := rfl
    have i1 : idx [m] 0 = some m := rfl
    have i2 : (n :: t)[0]? = some n := rfl
    have i3 : (0 : Int) < (n :: t).length := by simp only [List.length_cons]; omega
    rcases axA_or s' d' with e | e <;> rw [e, e2] <;> simp only [Alt.on]
    · rw [if_pos i3, i2]
      simp only [Option.bind_some, i1]
      exact body
    · rw [i0]
      simp only [Option.bind_some, i1]
      exact body
  · rw [if_neg (by omega), if_neg c]; rfl

-- one behind the other
/-- arrays with axes, of shapes of one rank -/
def catB (s d s' d' : List Int) : Except Int (List Int × List Int) :=
  if s.length = s'.length then (if s.tail = s'.tail then (if fits ((s.headD 0 + s'.headD 0) :: s.tail) = true then .ok ((s.headD 0 + s'.headD 0) :: s.tail, d ++ d') else .error 6) else .error 3) else .error 2
def catA (s d s' d' : List Int) : Except Int (List Int × List Int) :=
  if s.length = s'.length + 1 then catB s d (1 :: s') d' else if s'.length = s.length + 1 then catB (1 :: s) d s' d' else catB s d s' d'
def xCat (s d s' d' : List Int) : Except Int (List Int × List Int) := catA (ax s d).1 d (ax s' d').1 d'
def pre_spec_l2Cat (s d s' d' : List Int) : Prop := arrOk s d = true ∧ arrOk s' d' = true
def s_spec_l2Cat (s d s' d' : List Int) : List Int × List Int × Int := tri (xCat s d s' d')
section
variable (L1 : List Int → List Int → Option (Alt (List Int × List Int) (List Int × List Int))) (h1 : ∀ s d, pre_spec_l2Axes s d → L1 s d = some (s_spec_l2Axes s d))
  (L2 : List Int → List Int → Option Bool) (h2 : ∀ a b, pre_spec_l2Same a b → L2 a b = some (s_spec_l2Same a b))
  (L3 : List Int → Option (List Int)) (h3 : ∀ l, pre_spec_l2Copy l → L3 l = some (s_spec_l2Copy l))
  (L4 : List Int → List Int → Option (Alt (List Int × List Int) (List Int × List Int))) (h4 : ∀ s d, pre_spec_l2Made s d → L4 s d = some (s_spec_l2Made s d))
include h2 h3 h4
theorem cat_body (n n' : Int) (t t' d d' : List Int) (ht : t.length ≤ 3) (hn : 0 ≤ n ∧ n ≤ 1000) (hn' : 0 ≤ n' ∧ n' ≤ 1000) (hd : d.length ≤ 1000) (hd' : d'.length ≤ 1000) (l l' : Int) (hl : l = ((n :: t).length : Int)) (hl' : l' = ((n' :: t').length : Int)) (he : t.length = t'.length) :
    ((cut (n :: t) 1 l).bind fun y4 => (cut (n' :: t') 1 l').bind fun y5 => (L2 y4 y5).bind fun y6 => if y6 = false then some ([], [], 3) else ((idx (n :: t) 0).bind fun y7 => (idx (n' :: t') 0).bind fun y8 =>
      (cut (n :: t) 1 l).bind fun y9 => if room 8 (y9.length + 1) then ((L3 d).bind fun y10 => if room 8 (y10 ++ d').length then ((L4 (w64 (y7 + y8) :: y9) (y10 ++ d')).bind fun y11 => y11.on (fun y12 => some ([], [], 6)) (fun y12 => some (y12.1, y12.2, 0))) else none) else none))
      = some (tri (catB (n :: t) d (n' :: t') d')) := by
  subst hl hl'
  rw [cut_tail, cut_tail]
  simp only [Option.bind_some]
  rw [h2 _ _ (by unfold pre_spec_l2Same small; omega), show idx (n :: t) 0 = some n from rfl, show idx (n' :: t') 0 = some n' from rfl]
  simp only [Option.bind_some, s_spec_l2Same]
  have e : catB (n :: t) d (n' :: t') d' = if t = t' then (if fits ((n + n') :: t) = true then .ok ((n + n') :: t, d ++ d') else .error 6) else .error 3 := if_pos (by simp only [List.length_cons]; omega)
  rw [e]
  by_cases c : t = t'
  · rw [if_neg (by simp [c]), if_pos c, if_pos (by unfold room roomB; omega), h3 _ (by unfold pre_spec_l2Copy small; omega)]
    simp only [Option.bind_some, s_spec_l2Copy]
    rw [if_pos (room_small (by unfold small; simp only [List.length_append]; omega)), w64_in (by omega), h4 _ _ (by unfold pre_spec_l2Made small; simp only [List.length_cons]; omega)]
    simp only [Option.bind_some, s_spec_l2Made]
    cases fits ((n + n') :: t) <;> rfl
  · rw [if_pos (by simp [c]), if_neg c]; rfl
include h1 in
theorem p_spec_l2Cat (s d s' d' : List Int) (h : pre_spec_l2Cat s d s' d') : ∃ N, spec_l2Cat_f L1 L2 L3 L4 N s d s' d' = some (s_spec_l2Cat s d s' d') := by
  obtain ⟨ha, hb⟩ := h
  refine ⟨0, ?_⟩
  unfold spec_l2Cat_f s_spec_l2Cat xCat
  obtain ⟨n, t, e1, hc⟩ := ax_ok ha
  obtain ⟨n', t', e1', hc'⟩ := ax_ok hb
  have e2 : ax s d = (n :: t, d) := Prod.ext e1 (ax_d s d)
  have e2' : ax s' d' = (n' :: t', d') := Prod.ext e1' (ax_d s' d')
  obtain ⟨w, hw, hl, hd, n0, n1, ht, hn⟩ := arr_rows hc
  obtain ⟨w', hw', hl', hd', n0', n1', ht', hn'⟩ := arr_rows hc'
  have d1 := (arrOk_small ha).2.2.2.1
  have d1' := (arrOk_small hb).2.2.2.1
  rw [h1 _ _ (arrOk_small ha).2.1, h1 _ _ (arrOk_small hb).2.1]
  simp only [Option.bind_some, s_spec_l2Axes]
  have w1 : w64 (((n' :: t').length : Int) + 1) = ((n' :: t').length : Int) + 1 := w64_in (by simp only [List.length_cons]; omega)
  have w2 : w64 (((n :: t).length : Int) + 1) = ((n :: t).length : Int) + 1 := w64_in (by simp only [List.length_cons]; omega)
  have r1 : room 8 ((n' :: t').length + 1) := by unfold room roomB; simp only [List.length_cons]; omega
  have r2 : room 8 ((n :: t).length + 1) := by unfold room roomB; simp only [List.length_cons]; omega
  have z : ∀ x : List Int × List Int × Int, x = tri (catA (n :: t) d (n' :: t') d') → some x = some (tri (catA (n :: t) d (n' :: t') d')) := fun x h => by rw [h]
  rcases axA_or s d with e | e <;> rcases axA_or s' d' with e' | e' <;> rw [e, e', e2, e2'] <;> simp only [Alt.on, w1, w2, if_pos r1, if_pos r2] <;> unfold catA
  all_goals
    by_cases c1 : (n :: t).length = (n' :: t').length + 1
    · rw [if_pos (show ((n :: t).length : Int) = ((n' :: t').length : Int) + 1 by omega), if_pos c1, if_pos (show ((n :: t).length : Int) = (((n' :: t').length + 1 : Nat) : Int) by omega)]
      exact cat_body L2 h2 L3 h3 L4 h4 n 1 t (n' :: t') d d' (by omega) ⟨n0, n1⟩ (by omega) d1 d1' _ _ rfl (by simp only [List.length_cons]) (by simp only [List.length_cons] at *; omega)
    · rw [if_neg (show ¬ ((n :: t).length : Int) = ((n' :: t').length : Int) + 1 by omega), if_neg c1]
      by_cases c2 : (n' :: t').length = (n :: t).length + 1
      · rw [if_pos (show ((n' :: t').length : Int) = ((n :: t).length : Int) + 1 by omega), if_pos c2, if_pos (show (((n :: t).length + 1 : Nat) : Int) = ((n' :: t').length : Int) by omega)]
        exact cat_body L2 h2 L3 h3 L4 h4 1 n' (n :: t) t' d d' (by simp only [List.length_cons]; omega) (by omega) ⟨n0', n1'⟩ d1 d1' _ _ (by simp only [List.length_cons]) rfl (by simp only [List.length_cons] at *; omega)
      · rw [if_neg (show ¬ ((n' :: t').length : Int) = ((n :: t).length : Int) + 1 by omega), if_neg c2]
        by_cases c3 : (n :: t).length = (n' :: t').length
        · rw [if_pos (show ((n :: t).length : Int) = ((n' :: t').length : Int) by omega)]
          exact cat_body L2 h2 L3 h3 L4 h4 n n' t t' d d' (by omega) ⟨n0, n1⟩ ⟨n0', n1'⟩ d1 d1' _ _ rfl rfl (by simp only [List.length_cons] at *; omega)
        · rw [if_neg (show ¬ ((n :: t).length : Int) = ((n' :: t').length : Int) by omega)]
          rw [show catB (n :: t) d (n' :: t') d' = .error 2 from if_neg c3]; rfl
end
-- reshape
def cyc (d : List Int) : Nat → Nat → List Int
  | _, 0 => []
  | j, m + 1 => d.getD (j % d.length) 0 :: cyc d (j + 1) m
theorem cyc_len (d : List Int) : ∀ (m j : Nat), (cyc d j m).length = m
  | 0, j => rfl
  | m + 1, j => by simp only [cyc, List.length_cons, cyc_len d m]
theorem cyc_idx {d : List Int} (h : 0 < d.length) (j : Nat) : idx d (Int.tmod (j : Int) (d.length : Int)) = some (d.getD (j % d.length) 0) := by
  rw [show Int.tmod (j : Int) (d.length : Int) = ((j % d.length : Nat) : Int) from (Int.ofNat_tmod j d.length).symm, idx_nat, List.getD_eq_getElem?_getD, List.getElem?_eq_getElem (Nat.mod_lt _ h)]
  rfl
def xRes2 (d d' : List Int) : Except Int (List Int × List Int) :=
  if fits d = true then (if 0 < prodI d ∧ d'.length = 0 then .error 3 else .ok (d, cyc d' 0 (prodI d).toNat)) else .error 6
def xReshape (s d s' d' : List Int) : Except Int (List Int × List Int) :=
  if 1 < s.length then .error 2 else if 3 < d.length then .error 6 else if (d.any fun x => decide (x < 0)) = true then .error 1 else xRes2 d d'
section
variable (L1 : List Int → Option (List Int)) (h1 : ∀ l, pre_spec_l2Copy l → L1 l = some (s_spec_l2Copy l))
  (L2 : List Int → List Int → Option (Alt (List Int × List Int) (List Int × List Int))) (h2 : ∀ s d, pre_spec_l2Made s d → L2 s d = some (s_spec_l2Made s d))
  (L3 : List Int → Option Int) (h3 : ∀ l, pre_spec_l1Product l → L3 l = some (s_spec_l1Product l))
theorem l_sResh1 (s' d' S : List Int) (n : Nat) (hn : n ≤ 1000) : ∀ (m j e : Nat) (acc : List Int), j + m = n → (0 < m → 0 < d'.length) → acc.length = j →
    spec_l2Reshape_l1 L1 L2 L3 (m + 1 + e) n j s' d' S acc = some (S, acc ++ cyc d' j m, 0)
  | 0, j, e, acc, hj, hp, ha => by
    rw [show 0 + 1 + e = e + 1 by omega]
    simp only [spec_l2Reshape_l1]
    rw [if_neg (by omega)]; simp [cyc]
  | m + 1, j, e, acc, hj, hp, ha => by
    rw [show m + 1 + 1 + e = (m + 1 + e) + 1 by omega]
    simp only [spec_l2Reshape_l1]
    have hd := hp (by omega)
    rw [if_pos (by omega), if_neg (by omega), cyc_idx hd]
    simp only [Option.bind_some]
    rw [if_pos (room_small (by unfold small; simp only [List.length_append, List.length_cons, List.length_nil]; omega)), succ_w (n := n) (by omega) (by rw [big_eq]; omega),
      l_sResh1 s' d' S n hn m (j + 1) e _ (by omega) (fun _ => hd) (by simp only [List.length_append, List.length_cons, List.length_nil]; omega)]
    simp [cyc]
include h1 h2 h3 in
theorem l_sResh0 (s d s' d' : List Int) (hd : d.length ≤ 3) (N : Nat) (hN : 1001 ≤ N) : ∀ (r : List Int) (j e : Nat), d.drop j = r →
    spec_l2Reshape_l0 L1 L2 L3 N (r.length + 1 + e) j s d s' d' = some (tri (if (r.any fun x => decide (x < 0)) = true then .error 1 else xRes2 d d'))
  | [], j, e, hr => by
    rw [show ([] : List Int).length + 1 + e = e + 1 by simp; omega]
    simp only [spec_l2Reshape_l0]
    have hs : small d := by unfold small; omega
    rw [if_neg (at_nil hr), h1 _ hs]
    simp only [Option.bind_some, s_spec_l2Copy]
    rw [h2 _ _ hs]
    simp only [Option.bind_some, s_spec_l2Made, List.any_nil]
    unfold xRes2
    cases hf : fits d with
    | false => rfl
    | true =>
      rw [if_pos rfl]
      simp only [Alt.on]
      rw [h3 _ hs]
      simp only [Option.bind_some, s_spec_l1Product, fits_prod hf]
      have hr := fits_range hf
      rw [fits_prod hf] at hr
      obtain ⟨p, hp⟩ := Int.eq_ofNat_of_zero_le hr.1
      obtain ⟨e, rfl⟩ : ∃ e, N = p + 1 + e := ⟨N - (p + 1), by omega⟩
      rw [hp]
      simp only [Int.toNat_natCast, Int.ofNat_eq_natCast]
      have key : (0 < p → 0 < d'.length) → spec_l2Reshape_l1 L1 L2 L3 (p + 1 + e) p 0 s' d' d [] = some (d, cyc d' 0 p, 0) := fun h => by
        have q := l_sResh1 L1 L2 L3 s' d' d p (by omega) p 0 e [] (by omega) h rfl
        simpa using q
      by_cases c : (0 : Int) < p
      · rw [if_pos c]
        by_cases c' : d'.length = 0
        · rw [if_pos (by omega), if_neg Bool.false_ne_true, if_pos trivial, if_pos ⟨c, c'⟩]; rfl
        · rw [if_neg (by omega), key (by omega), if_neg Bool.false_ne_true, if_pos trivial, if_neg (fun q => c' q.2)]; rfl
      · rw [if_neg c, key (by omega), if_neg Bool.false_ne_true, if_pos trivial, if_neg (fun q => c q.1)]; rfl
  | x :: r, j, e, hr => by
    obtain ⟨q1, q2, q3, q4, q5, q6⟩ := at_cons hr
    rw [show (x :: r).length + 1 + e = (r.length + 1 + e) + 1 by simp; omega]
    simp only [spec_l2Reshape_l0]
    rw [if_pos q2, q3]
    simp only [Option.bind_some, List.any_cons]
    by_cases c : x < 0
    · rw [if_pos c]; simp [c, tri]
    · rw [if_neg c, succ_w q1 (by rw [big_eq]; omega), l_sResh0 s d s' d' hd N hN r (j + 1) e q5]
      simp [c]
def pre_spec_l2Reshape (s d s' d' : List Int) : Prop := True
def s_spec_l2Reshape (s d s' d' : List Int) : List Int × List Int × Int := tri (xReshape s d s' d')
include h1 h2 h3 in
theorem p_spec_l2Reshape (s d s' d' : List Int) (h : pre_spec_l2Reshape s d s' d') : ∃ N, spec_l2Reshape_f L1 L2 L3 N s d s' d' = some (s_spec_l2Reshape s d s' d') := by
  refine ⟨1005, ?_⟩
  unfold spec_l2Reshape_f s_spec_l2Reshape xReshape
  by_cases c : 1 < s.length
  · rw [if_pos (by omega), if_pos c]; rfl
  · rw [if_neg (by omega), if_neg c]
    by_cases c' : 3 < d.length
    · rw [if_pos (by omega), if_pos c']; rfl
    · rw [if_neg (by omega), if_neg c']
      have q := l_sResh0 L1 h1 L2 h2 L3 h3 s d s' d' (by omega) 1005 (by omega) d 0 (1004 - d.length) rfl
      rw [show d.length + 1 + (1004 - d.length) = 1005 by omega] at q
      exact q
end

-- rows picked
def gather (n : Int) (d : List Int) (w : Nat) : List Int → Except Int (List Int)
  | [] => .ok []
  | i :: r => if i < 0 then .error 4 else if n ≤ i then .error 4 else match gather n d w r with
    | .ok l => .ok (nthRow d w i.toNat ++ l)
    | .error c => .error c
def bhd (s acc : List Int) : Except Int (List Int) → Except Int (List Int × List Int)
  | .ok l => .ok (s, acc ++ l)
  | .error c => .error c
theorem bhd_nil (s acc : List Int) (n : Int) (d : List Int) (w : Nat) : bhd s acc (gather n d w []) = .ok (s, acc) := by simp [bhd, gather]
theorem bhd_cons (s acc : List Int) (n : Int) (d : List Int) (w : Nat) (i : Int) (r : List Int) (h0 : ¬ i < 0) (h1 : ¬ n ≤ i) : bhd s acc (gather n d w (i :: r)) = bhd s (acc ++ nthRow d w i.toNat) (gather n d w r) := by
  simp only [gather, if_neg h0, if_neg h1]
  cases gather n d w r <;> simp [bhd]
theorem bhd_err (s acc : List Int) (n : Int) (d : List Int) (w : Nat) (i : Int) (r : List Int) (h : i < 0 ∨ n ≤ i) : bhd s acc (gather n d w (i :: r)) = .error 4 := by
  simp only [gather]
  by_cases c : i < 0
  · rw [if_pos c]; rfl
  · rw [if_neg c, if_pos (by omega)]; rfl
def xFrom (s d s' d' : List Int) : Except Int (List Int × List Int) := match s' with
  | [] => .error 2
  | n :: t => if fits (s ++ t) = true then bhd (s ++ t) [] (gather n d' (prodI t).toNat d) else .error 6
section
variable (L1 : List Int → Option (List Int)) (h1 : ∀ l, pre_spec_l2Copy l → L1 l = some (s_spec_l2Copy l))
  (L2 : List Int → List Int → Option (Alt (List Int × List Int) (List Int × List Int))) (h2 : ∀ s d, pre_spec_l2Made s d → L2 s d = some (s_spec_l2Made s d))
  (L3 : List Int → List Int → Int → Option (List Int × List Int)) (h3 : ∀ s d i, pre_spec_l2Row s d i → L3 s d i = some (s_spec_l2Row s d i))
include h3 in
theorem l_sFrom (s d : List Int) (n : Int) (t d' S : List Int) (w : Nat) (hb : arrOk (n :: t) d' = true) (hw : prodI t = (w : Int)) (hl : (d'.length : Int) = n * w) (hn : n * w ≤ 1000) (hd : d.length ≤ 1000) : ∀ (r : List Int) (j e : Nat) (acc : List Int), d.drop j = r → acc.length ≤ j * 1000 →
    spec_l2From_l0 L1 L2 L3 (r.length + 1 + e) j s d (n :: t) d' S acc = some (tri (bhd S acc (gather n d' w r)))
  | [], j, e, acc, hr, ha => by
    rw [show ([] : List Int).length + 1 + e = e + 1 by simp; omega]
    simp only [spec_l2From_l0]
    rw [if_neg (at_nil hr), bhd_nil]; rfl
  | x :: r, j, e, acc, hr, ha => by
    obtain ⟨q1, q2, q3, q4, q5, q6⟩ := at_cons hr
    rw [show (x :: r).length + 1 + e = (r.length + 1 + e) + 1 by simp; omega]
    simp only [spec_l2From_l0]
    rw [if_pos q2, q3, show idx (n :: t) 0 = some n from rfl]
    simp only [Option.bind_some]
    by_cases c : x < 0
    · rw [if_pos c, bhd_err _ _ _ _ _ _ _ (.inl c)]; rfl
    · rw [if_neg c]
      by_cases c' : n ≤ x
      · rw [if_pos c', bhd_err _ _ _ _ _ _ _ (.inr c')]; rfl
      · have hft := fits_tail (arrOk_cells hb).2.1 (show 1 ≤ n by omega)
        have hwt : (prodI t).toNat = w := by rw [hw]; rfl
        have hrow := row_fits hl (show 0 ≤ x by omega) (show x < n by omega)
        rw [if_neg c', h3 _ _ _ ⟨(arrOk_small hb).2.1, n, t, rfl, hft, by omega, by rw [hwt]; exact hrow⟩]
        simp only [Option.bind_some, s_spec_l2Row, List.tail_cons, hwt]
        have hlen := nthRow_len hrow
        have hw1 : w ≤ 1000 := by have := (fits_range hft).2; rw [fits_prod hft, hw] at this; omega
        rw [bhd_cons _ _ _ _ _ _ _ c c', if_pos (room_small (by unfold small; simp only [List.length_append, hlen]; omega)), succ_w q1 (by rw [big_eq]; omega),
          l_sFrom s d n t d' S w hb hw hl hn hd r (j + 1) e _ q5 (by simp only [List.length_append, hlen]; omega)]
def pre_spec_l2From (s d s' d' : List Int) : Prop := arrOk s d = true ∧ arrOk s' d' = true
def s_spec_l2From (s d s' d' : List Int) : List Int × List Int × Int := tri (xFrom s d s' d')
include h1 h2 h3 in
theorem p_spec_l2From (s d s' d' : List Int) (h : pre_spec_l2From s d s' d') : ∃ N, spec_l2From_f L1 L2 L3 N s d s' d' = some (s_spec_l2From s d s' d') := by
  obtain ⟨ha, hb⟩ := h
  refine ⟨d.length + 1, ?_⟩
  unfold spec_l2From_f s_spec_l2From xFrom
  cases s' with
  | nil => rw [if_pos (show (([] : List Int).length : Int) = 0 from rfl)]; rfl
  | cons n t =>
    obtain ⟨w, hw, hl, hd, n0, n1, ht, hn⟩ := arr_rows hb
    obtain ⟨a1, a2, a3, a4, a5⟩ := arrOk_small ha
    have hsm : small (s ++ t) := by unfold small; simp only [List.length_append]; omega
    rw [if_neg (by simp only [List.length_cons]; omega), cut_tail]
    simp only [Option.bind_some]
    rw [h1 _ a1]
    simp only [Option.bind_some, s_spec_l2Copy]
    rw [if_pos (room_small hsm), h2 _ _ hsm]
    simp only [Option.bind_some, s_spec_l2Made]
    cases hf : fits (s ++ t) with
    | false => rfl
    | true =>
      have q := l_sFrom L1 L2 L3 h3 s d n t d' (s ++ t) w hb hw hl hn a4 d 0 0 [] rfl (by simp)
      rw [if_pos rfl, if_pos rfl, hw]
      exact q
end

-- the first place
def fnd : List Int → Int → Nat
  | [], _ => 0
  | x :: l, v => if x = v then 0 else fnd l v + 1
theorem fnd_le : ∀ (l : List Int) (v : Int), fnd l v ≤ l.length
  | [], v => Nat.le_refl _
  | x :: l, v => by
    simp only [fnd, List.length_cons]
    have := fnd_le l v
    split <;> omega
def pre_spec_l2Find (l : List Int) (v : Int) : Prop := small l
def s_spec_l2Find (l : List Int) (v : Int) : Int := fnd l v
theorem l_find (l : List Int) (v : Int) (hl : small l) : ∀ (r : List Int) (j e : Nat), l.drop j = r → j ≤ l.length → spec_l2Find_l0 (r.length + 1 + e) l v j = some ((j : Int) + fnd r v)
  | [], j, e, hr, hj => by
    rw [show ([] : List Int).length + 1 + e = e + 1 by simp; omega]
    simp only [spec_l2Find_l0]
    have := at_nil hr
    rw [if_neg this, show l.length = j by omega]
    simp [fnd]
  | x :: r, j, e, hr, hj => by
    obtain ⟨q1, q2, q3, q4, q5, q6⟩ := at_cons hr
    rw [show (x :: r).length + 1 + e = (r.length + 1 + e) + 1 by simp; omega]
    simp only [spec_l2Find_l0]
    rw [if_pos q2, q3]
    simp only [Option.bind_some, fnd]
    by_cases c : x = v
    · rw [if_pos c, if_pos c]; simp
    · rw [if_neg c, if_neg c, succ_w q1 (by unfold small at hl; rw [big_eq]; omega), l_find l v hl r (j + 1) e q5 q1]
      congr 1; omega
theorem p_spec_l2Find (l : List Int) (v : Int) (h : pre_spec_l2Find l v) : ∃ N, spec_l2Find_f N l v = some (s_spec_l2Find l v) := by
  refine ⟨l.length + 1, ?_⟩
  have q := l_find l v h l 0 0 rfl (Nat.zero_le _)
  unfold spec_l2Find_f s_spec_l2Find
  rw [show ((0 : Nat) : Int) = 0 from rfl, Int.zero_add] at q
  exact q
def xFind (s d s' d' : List Int) : Except Int (List Int × List Int) := if s.length = 1 then .ok (s', d'.map fun v => (fnd d v : Int)) else .error 2
def xMatch (s d s' d' : List Int) : List Int × List Int := ([], [s_spec_l2Bool (decide (s = s') && decide (d = d'))])
def xDyad (f : Int) (s d s' d' : List Int) : Except Int (List Int × List Int) :=
  if f = 1 then xReshape s d s' d' else if f = 2 then xTake f s d s' d' else if f = 3 then xTake f s d s' d' else if f = 4 then xCat s d s' d' else if f = 5 then xFrom s d s' d' else if f = 7 then .ok (xMatch s d s' d') else xFind s d s' d'
def pre_spec_Dyad (f : Int) (s d s' d' : List Int) : Prop := small s ∧ small d ∧ small s' ∧ small d'
def s_spec_Dyad (f : Int) (s d s' d' : List Int) : List Int × List Int × Int :=
  if (1 ≤ f ∧ f ≤ 7) ∧ arrOk s d = true ∧ arrOk s' d' = true then tri (xDyad f s d s' d') else ([], [], 9)
section
variable (L1 : List Int → List Int → Option Bool) (h1 : ∀ s d, pre_spec_ArrayOk s d → L1 s d = some (s_spec_ArrayOk s d))
  (L2 : List Int → List Int → List Int → List Int → Option (List Int × List Int × Int)) (h2 : ∀ s d s' d', pre_spec_l2Reshape s d s' d' → L2 s d s' d' = some (s_spec_l2Reshape s d s' d'))
  (L3 : Int → List Int → List Int → List Int → List Int → Option (List Int × List Int × Int)) (h3 : ∀ f s d s' d', pre_spec_l2Take f s d s' d' → L3 f s d s' d' = some (s_spec_l2Take f s d s' d'))
  (L4 : List Int → List Int → List Int → List Int → Option (List Int × List Int × Int)) (h4 : ∀ s d s' d', pre_spec_l2Cat s d s' d' → L4 s d s' d' = some (s_spec_l2Cat s d s' d'))
  (L5 : List Int → List Int → List Int → List Int → Option (List Int × List Int × Int)) (h5 : ∀ s d s' d', pre_spec_l2From s d s' d' → L5 s d s' d' = some (s_spec_l2From s d s' d'))
  (L6 : List Int → List Int → Option Bool) (h6 : ∀ a b, pre_spec_l2Same a b → L6 a b = some (s_spec_l2Same a b))
  (L7 : Bool → Option Int) (h7 : ∀ b, pre_spec_l2Bool b → L7 b = some (s_spec_l2Bool b))
  (L8 : List Int → Option (List Int)) (h8 : ∀ l, pre_spec_l2Copy l → L8 l = some (s_spec_l2Copy l))
  (L9 : List Int → Int → Option Int) (h9 : ∀ l v, pre_spec_l2Find l v → L9 l v = some (s_spec_l2Find l v))
include h9 in
theorem l_sFind (s d s' d' S : List Int) (hd : small d) (hd' : small d') : ∀ (r : List Int) (j e : Nat) (acc : List Int), d'.drop j = r → acc.length = j →
    spec_Dyad_l0 L1 L2 L3 L4 L5 L6 L7 L8 L9 (r.length + 1 + e) j s d s' d' S acc = some (S, acc ++ r.map (fun v => (fnd d v : Int)), 0)
  | [], j, e, acc, hr, ha => by
    rw [show ([] : List Int).length + 1 + e = e + 1 by simp; omega]
    simp only [spec_Dyad_l0]
    rw [if_neg (at_nil hr)]; simp
  | x :: r, j, e, acc, hr, ha => by
    obtain ⟨q1, q2, q3, q4, q5, q6⟩ := at_cons hr
    have hdl : d'.length ≤ 1048576 := hd'
    rw [show (x :: r).length + 1 + e = (r.length + 1 + e) + 1 by simp; omega]
    simp only [spec_Dyad_l0]
    rw [if_pos q2, q3]
    simp only [Option.bind_some]
    rw [h9 _ _ hd]
    simp only [Option.bind_some]
    rw [if_pos (room_small (by unfold small; simp only [List.length_append, List.length_cons, List.length_nil]; omega)), succ_w q1 (by rw [big_eq]; omega), l_sFind s d s' d' S hd hd' r (j + 1) e _ q5 (by simp [ha])]
    simp [s_spec_l2Find]
include h1 h2 h3 h4 h5 h6 h7 h8 h9 in
theorem p_spec_Dyad (f : Int) (s d s' d' : List Int) (h : pre_spec_Dyad f s d s' d') : ∃ N, spec_Dyad_f L1 L2 L3 L4 L5 L6 L7 L8 L9 N f s d s' d' = some (s_spec_Dyad f s d s' d') := by
  obtain ⟨ss, sd, ss', sd'⟩ := h
  refine ⟨d'.length + 1, ?_⟩
  unfold spec_Dyad_f s_spec_Dyad
  by_cases c1 : f < 1
  · rw [if_pos c1, if_neg (fun q => by have := q.1.1; omega)]
  rw [if_neg c1]
  by_cases c2 : 7 < f
  · rw [if_pos c2, if_neg (fun q => by have := q.1.2; omega)]
  rw [if_neg c2, h1 _ _ ⟨ss, sd⟩, h1 _ _ ⟨ss', sd'⟩]
  simp only [Option.bind_some, s_spec_ArrayOk]
  cases ha : arrOk s d with
  | false => rw [if_pos rfl, if_neg (fun q => by cases q.2.1)]
  | true =>
  rw [if_neg (by simp)]
  cases hb : arrOk s' d' with
  | false => rw [if_pos rfl, if_neg (fun q => by cases q.2.2)]
  | true =>
  rw [if_neg (by simp), if_pos (show (1 ≤ f ∧ f ≤ 7) ∧ true = true ∧ true = true from ⟨⟨by omega, by omega⟩, rfl, rfl⟩)]
  unfold xDyad
  by_cases f1 : f = 1
  · rw [if_pos f1, if_pos f1, h2 _ _ _ _ trivial]; rfl
  rw [if_neg f1, if_neg f1]
  by_cases f2 : f = 2
  · rw [if_pos f2, if_pos f2, h3 _ _ _ _ _ ⟨ha, hb⟩]; rfl
  rw [if_neg f2, if_neg f2]
  by_cases f3 : f = 3
  · rw [if_pos f3, if_pos f3, h3 _ _ _ _ _ ⟨ha, hb⟩]; rfl
  rw [if_neg f3, if_neg f3]
  by_cases f4 : f = 4
  · rw [if_pos f4, if_pos f4, h4 _ _ _ _ ⟨ha, hb⟩]; rfl
  rw [if_neg f4, if_neg f4]
  by_cases f5 : f = 5
  · rw [if_pos f5, if_pos f5, h5 _ _ _ _ ⟨ha, hb⟩]; rfl
  rw [if_neg f5, if_neg f5]
  by_cases f7 : f = 7
  · rw [if_pos f7, if_pos f7, h6 _ _ ss, h6 _ _ sd]
    simp only [Option.bind_some, s_spec_l2Same]
    by_cases e : s = s'
    · rw [if_pos (by simp [e]), h7 _ trivial]
      simp [xMatch, tri, e]
    · rw [if_neg (by simp [e]), h7 _ trivial]
      simp [xMatch, tri, e]
  rw [if_neg f7, if_neg f7]
  unfold xFind
  by_cases c : s.length = 1
  · rw [if_pos (by omega), if_pos c, h8 _ ss']
    simp only [Option.bind_some, s_spec_l2Copy]
    have q := l_sFind L1 L2 L3 L4 L5 L6 L7 L8 L9 h9 s d s' d' s' sd sd' d' 0 0 [] rfl rfl
    simpa [tri] using q
  · rw [if_neg (by omega), if_neg c]; rfl
end

-- the program's own
theorem made_fits {l : List Int} (h : fits l = true) : s_impl_made l = .ok (l, some (prodI l).toNat, []) := by
  unfold s_impl_made
  rw [if_pos h, (cellsOf_fits l).2 h, fits_prod h]
theorem made_not {l : List Int} (h : ¬ fits l = true) : s_impl_made l = .pan (thrown 6) := if_neg h
section
variable (L1 : List Int → Option (Res (List Int × Option Nat × List Int))) (h1 : ∀ l, pre_impl_made l → L1 l = some (s_impl_made l))
  (L2 : List Int → Option (Int × Bool)) (h2 : ∀ l, pre_impl_cellsOf l → L2 l = some (s_impl_cellsOf l))
theorem l_iResh1 (s' d' S : List Int) (n : Nat) (hn : n ≤ 1000) : ∀ (m j e : Nat) (acc : List Int), j + m = n → (0 < m → 0 < d'.length) → acc.length = j →
    impl_reshaped_l1 L1 L2 (m + 1 + e) n j s' d' S acc = some (.ok (S, acc ++ cyc d' j m))
  | 0, j, e, acc, hj, hp, ha => by
    rw [show 0 + 1 + e = e + 1 by omega]
    simp only [impl_reshaped_l1]
    rw [if_neg (by omega)]; simp [cyc]
  | m + 1, j, e, acc, hj, hp, ha => by
    rw [show m + 1 + 1 + e = (m + 1 + e) + 1 by omega]
    simp only [impl_reshaped_l1]
    have hd := hp (by omega)
    rw [if_pos (by omega), if_neg (by omega), cyc_idx hd]
    simp only [Option.bind_some]
    rw [if_pos (room_small (by unfold small; simp only [List.length_append, List.length_cons, List.length_nil]; omega)), succ_w (n := n) (by omega) (by rw [big_eq]; omega),
      l_iResh1 s' d' S n hn m (j + 1) e _ (by omega) (fun _ => hd) (by simp only [List.length_append, List.length_cons, List.length_nil]; omega)]
    simp [cyc]
include h1 h2 in
theorem l_iResh0 (s d s' d' : List Int) (hd : d.length ≤ 3) (N : Nat) (hN : 1001 ≤ N) : ∀ (r : List Int) (j e : Nat), d.drop j = r →
    impl_reshaped_l0 L1 L2 N (r.length + 1 + e) d d.length j s d s' d' = some (pans (if (r.any fun x => decide (x < 0)) = true then .error 1 else xRes2 d d'))
  | [], j, e, hr => by
    rw [show ([] : List Int).length + 1 + e = e + 1 by simp; omega]
    simp only [impl_reshaped_l0]
    have hs : small d := by unfold small; omega
    rw [if_neg (at_nil hr), h1 _ hs]
    simp only [Option.bind_some]
    rw [if_neg (show ¬ (([] : List Int).any fun x => decide (x < 0)) = true by simp)]
    unfold xRes2
    cases hf : fits d with
    | false => rw [made_not (by rw [hf]; simp)]; rfl
    | true =>
      rw [made_fits hf]
      simp only [Res.on, Option.bind_some]
      rw [h2 _ hs, if_pos trivial]
      simp only [Option.bind_some, (cellsOf_fits d).2 hf, fits_prod hf]
      have hr := fits_range hf
      rw [fits_prod hf] at hr
      obtain ⟨p, hp⟩ := Int.eq_ofNat_of_zero_le hr.1
      obtain ⟨e, rfl⟩ : ∃ e, N = p + 1 + e := ⟨N - (p + 1), by omega⟩
      rw [hp]
      simp only [Int.toNat_natCast, Int.ofNat_eq_natCast]
      have key : ∀ q : Int, q = p → (0 < p → 0 < d'.length) → impl_reshaped_l1 L1 L2 (p + 1 + e) q 0 s' d' d [] = some (.ok (d, cyc d' 0 p)) := fun q hq h => by
        subst hq
        have q := l_iResh1 L1 L2 s' d' d p (by omega) p 0 e [] (by omega) h rfl
        simpa using q
      by_cases c0 : (p : Int) = 0
      · rw [if_pos c0, key 0 c0.symm (by omega), if_neg (fun q => by have := q.1; omega)]; rfl
      · rw [if_neg c0, if_pos (by omega)]
        by_cases c' : d'.length = 0
        · rw [if_pos (by omega), if_pos ⟨by omega, c'⟩]; rfl
        · rw [if_neg (by omega), key _ rfl (by omega), if_neg (fun q => c' q.2)]; rfl
  | x :: r, j, e, hr => by
    obtain ⟨q1, q2, q3, q4, q5, q6⟩ := at_cons hr
    rw [show (x :: r).length + 1 + e = (r.length + 1 + e) + 1 by simp; omega]
    simp only [impl_reshaped_l0]
    rw [if_pos q2, q3]
    simp only [Option.bind_some, List.any_cons]
    by_cases c : x < 0
    · rw [if_pos c]; simp [c, pans, thrown]
    · rw [if_neg c, succ_w q1 (by rw [big_eq]; omega), l_iResh0 s d s' d' hd N hN r (j + 1) e q5]
      simp [c]
def pre_impl_reshaped (s d s' d' : List Int) : Prop := True
def s_impl_reshaped (s d s' d' : List Int) : Res (List Int × List Int) := pans (xReshape s d s' d')
include h1 h2 in
theorem p_impl_reshaped (s d s' d' : List Int) (h : pre_impl_reshaped s d s' d') : ∃ N, impl_reshaped_f L1 L2 N s d s' d' = some (s_impl_reshaped s d s' d') := by
  refine ⟨1005, ?_⟩
  unfold impl_reshaped_f s_impl_reshaped xReshape
  by_cases c : 1 < s.length
  · rw [if_pos (by omega), if_pos c]; rfl
  · rw [if_neg (by omega), if_neg c]
    by_cases c' : 3 < d.length
    · rw [if_pos (by omega), if_pos c']; rfl
    · rw [if_neg (by omega), if_neg c']
      have q := l_iResh0 L1 h1 L2 h2 s d s' d' (by omega) 1005 (by omega) d 0 (1004 - d.length) rfl
      rw [show d.length + 1 + (1004 - d.length) = 1005 by omega] at q
      exact q
end

def pre_impl_numberOf (s d : List Int) : Prop := arrOk s d = true
def s_impl_numberOf (s d : List Int) : Res Int := if s.length = 0 then .ok (d.headD 0) else .pan (thrown 2)
theorem p_impl_numberOf (s d : List Int) (h : pre_impl_numberOf s d) : ∃ N, impl_numberOf_f N s d = some (s_impl_numberOf s d) := by
  refine ⟨0, ?_⟩
  unfold impl_numberOf_f s_impl_numberOf
  by_cases c : s.length = 0
  · obtain ⟨x, rfl, hx⟩ := one_cell h c
    rw [if_pos (by omega), if_pos c]; rfl
  · rw [if_neg (by omega), if_neg c]; rfl
def pre_impl_withFirst (n : Int) (l : List Int) : Prop := l.length ≤ 4 ∧ ¬ l = []
def s_impl_withFirst (n : Int) (l : List Int) : List Int := n :: l.tail
theorem p_impl_withFirst (n : Int) (l : List Int) (h : pre_impl_withFirst n l) : ∃ N, impl_withFirst_f N n l = some (s_impl_withFirst n l) := by
  refine ⟨0, ?_⟩
  unfold impl_withFirst_f s_impl_withFirst
  obtain ⟨h1, h2⟩ := h
  cases l with
  | nil => exact absurd rfl h2
  | cons x t =>
    rw [cut_tail]
    simp only [Option.bind_some, List.tail_cons]
    rw [if_pos (by simp only [List.length_cons] at h1; unfold room roomB; omega)]
def pre_impl_scalarOf (x : Int) : Prop := True
def s_impl_scalarOf (x : Int) : List Int × List Int := ([], [x])
theorem p_impl_scalarOf (x : Int) (h : pre_impl_scalarOf x) : ∃ N, impl_scalarOf_f N x = some (s_impl_scalarOf x) := ⟨0, rfl⟩
theorem l_equal (a b : List Int) (ha : small a) (hab : a.length = b.length) : ∀ (r t : List Int) (j e : Nat), a.drop j = r → b.drop j = t → slices_Equal___int_int__l0 (r.length + 1 + e) a b a.length j = some (decide (r = t))
  | [], t, j, e, hd, hd' => by
    have h := at_nil hd
    rw [show ([] : List Int).length + 1 + e = e + 1 by simp; omega]
    simp only [slices_Equal___int_int__l0]
    have : t = [] := by rw [← hd']; exact List.drop_eq_nil_of_le (by omega)
    rw [if_neg h, this]; rfl
  | x :: r, t, j, e, hd, hd' => by
    obtain ⟨h1, h2, h3, h4, h5, h6⟩ := at_cons hd
    have hb : a.length ≤ big := by unfold small at ha; rw [big_eq]; omega
    cases t with
    | nil => have := at_nil hd'; omega
    | cons y t =>
      obtain ⟨g1, g2, g3, g4, g5, g6⟩ := at_cons hd'
      rw [show (x :: r).length + 1 + e = (r.length + 1 + e) + 1 by simp; omega]
      simp only [slices_Equal___int_int__l0]
      rw [if_pos h2, h3, g3]
      simp only [Option.bind_some]
      rw [succ_w h1 hb, l_equal a b ha hab r t (j + 1) e h5 g5]
      by_cases c : x = y
      · rw [if_pos c]; simp [c]
      · rw [if_neg c]; simp [c]
def pre_slices_Equal___int_int_ (a b : List Int) : Prop := small a
def s_slices_Equal___int_int_ (a b : List Int) : Bool := decide (a = b)
theorem p_slices_Equal___int_int_ (a b : List Int) (h : pre_slices_Equal___int_int_ a b) : ∃ N, slices_Equal___int_int__f N a b = some (s_slices_Equal___int_int_ a b) := by
  refine ⟨a.length + 1, ?_⟩
  unfold slices_Equal___int_int__f s_slices_Equal___int_int_
  by_cases c : (a.length : Int) = b.length
  · rw [if_pos c]
    exact l_equal a b h (by omega) a b 0 0 rfl rfl
  · rw [if_neg c]
    have : ¬ a = b := by rintro rfl; exact c rfl
    simp [this]
def pre_impl_rowsOf (s d : List Int) : Prop := arrOk s d = true ∧ ∃ n t, s = n :: t
def s_impl_rowsOf (s d : List Int) : Int × Int := if s.headD 0 = 0 then (0, 0) else (s.headD 0, prodI s.tail)
theorem rowsOf_cons (n : Int) (t d : List Int) : s_impl_rowsOf (n :: t) d = if n = 0 then (0, 0) else (n, prodI t) := rfl
theorem xTake_eq {f : Int} {s s' d' : List Int} {m n : Int} {t : List Int} (c : s.length = 0) (e : ax s' d' = (n :: t, d')) : xTake f s [m] s' d' =
    if f = 2 then (if m < 0 then xSpan (n :: t) d' (n + m) (-m).toNat else xSpan (n :: t) d' 0 m.toNat) else if n ≤ m then xSpan (n :: t) d' 0 0 else if n ≤ -m then xSpan (n :: t) d' 0 0 else if m < 0 then xSpan (n :: t) d' 0 (n + m).toNat else xSpan (n :: t) d' m (n - m).toNat := by
  unfold xTake
  rw [if_pos c, e]; rfl
theorem p_impl_rowsOf (s d : List Int) (h : pre_impl_rowsOf s d) : ∃ N, impl_rowsOf_f N s d = some (s_impl_rowsOf s d) := by
  obtain ⟨h, n, t, rfl⟩ := h
  obtain ⟨w, hw, hl, hd, n0, n1, ht, hn⟩ := arr_rows h
  refine ⟨0, ?_⟩
  unfold impl_rowsOf_f
  rw [show idx (n :: t) 0 = some n from rfl, rowsOf_cons]
  simp only [Option.bind_some]
  by_cases c : n = 0
  · rw [if_pos c, if_pos c]
  · have hw0 : 0 ≤ (w : Int) := by omega
    have hwb : (w : Int) ≤ n * w := by
      have := Int.mul_le_mul_of_nonneg_right (show (1 : Int) ≤ n by omega) hw0
      omega
    rw [if_neg c, if_neg c, if_neg c, hl, Int.mul_tdiv_cancel_left _ c, w64_in (by omega), hw]
theorem rowsOf_fst {n : Int} {t d : List Int} : (s_impl_rowsOf (n :: t) d).1 = n := by
  rw [rowsOf_cons]
  split
  · rename_i c; exact c.symm
  · rfl
theorem rowsOf_snd {n : Int} {t d : List Int} (h : 0 < n) : (s_impl_rowsOf (n :: t) d).2 = prodI t := by
  rw [rowsOf_cons, if_neg (by omega)]
theorem cut_rows {d : List Int} {w k c : Nat} (h : (k + c) * w ≤ d.length) : cut d ((k : Int) * w) (((k + c : Nat) : Int) * w) = some ((d.drop (k * w)).take (c * w)) := by
  unfold cut
  have e : (k : Int) * w = ((k * w : Nat) : Int) := by simp
  have e2 : ((k + c : Nat) : Int) * w = (((k + c) * w : Nat) : Int) := by simp
  rw [Nat.add_mul] at h
  rw [e, e2, Nat.add_mul, if_pos (by omega), Int.toNat_natCast]
  congr 2
  omega
theorem spanL_in {d : List Int} {w : Nat} {n : Int} : ∀ (c k : Nat), (k : Int) + c ≤ n → spanL d w n k c = (d.drop (k * w)).take (c * w)
  | 0, k, h => by simp [spanL]
  | c + 1, k, h => by
    simp only [spanL, rowZ]
    rw [if_pos ⟨by omega, by omega⟩, show ((k : Int) + 1) = ((k + 1 : Nat) : Int) by omega, spanL_in c (k + 1) (by omega), Int.toNat_natCast]
    unfold nthRow
    rw [show (c + 1) * w = w + c * w by rw [Nat.add_mul, Nat.one_mul]; omega, List.take_add, List.drop_drop, show k * w + w = (k + 1) * w by rw [Nat.add_mul, Nat.one_mul]]
section
variable (L1 : List Int → List Int → Option (Res Int)) (h1 : ∀ s d, pre_impl_numberOf s d → L1 s d = some (s_impl_numberOf s d))
  (L2 : List Int → List Int → Option (Alt (List Int × List Int) (List Int × List Int))) (h2 : ∀ s d, pre_impl_asRows s d → L2 s d = some (s_impl_asRows s d))
  (L3 : Int → List Int → Option (List Int)) (h3 : ∀ n l, pre_impl_withFirst n l → L3 n l = some (s_impl_withFirst n l))
  (L4 : List Int → Option (Res (List Int × Option Nat × List Int))) (h4 : ∀ l, pre_impl_made l → L4 l = some (s_impl_made l))
theorem l_taken1 (n : Int) (s d S : List Int) (w : Nat) (hl : (d.length : Int) = n * w) (hw1 : w ≤ 1000) (hd : d.length ≤ 1000) (a x9 want : Int) (want1 : 0 ≤ want ∧ want ≤ 1000) (ha : -5000000000 ≤ a ∧ a ≤ 5000000000) : ∀ (m : Nat) (k : Int) (e : Nat) (acc : List Int), k + m = a + want → a ≤ k → (0 < m → x9 = w) → acc.length + m * w ≤ 1000 * 1000 →
    impl_taken_l1 L1 L2 L3 L4 (m + 1 + e) n want x9 a k s d S acc = some (.ok (S, acc ++ spanL d w n k m))
  | 0, k, e, acc, hk, hak, hx, hac => by
    rw [show 0 + 1 + e = e + 1 by omega]
    simp only [impl_taken_l1]
    rw [w64_in (n := a + want) (by omega), if_neg (by omega)]; simp [spanL]
  | m + 1, k, e, acc, hk, hak, hx, hac => by
    rw [show m + 1 + 1 + e = (m + 1 + e) + 1 by omega]
    simp only [impl_taken_l1]
    have hx' := hx (by omega)
    subst hx'
    rw [Nat.add_mul, Nat.one_mul] at hac
    have e1 : w64 (k + 1) = k + 1 := w64_in (by omega)
    have step : ∀ r : List Int, r = rowZ d w n k → (if room 8 (acc ++ r).length then impl_taken_l1 L1 L2 L3 L4 (m + 1 + e) n want w a (k + 1) s d S (acc ++ r) else none) = some (.ok (S, acc ++ spanL d w n k (m + 1))) := by
      intro r hr
      have hrl : r.length = w := by rw [hr]; exact rowZ_len hl k
      rw [if_pos (room_small (by unfold small; simp only [List.length_append, hrl]; omega)), l_taken1 n s d S w hl hw1 hd a w want want1 ha m (k + 1) e _ (by omega) (by omega) (fun _ => rfl) (by simp only [List.length_append, hrl]; omega), hr]
      simp only [spanL, List.append_assoc]
    rw [w64_in (n := a + want) (by omega), if_pos (by omega), e1]
    by_cases c0 : k < 0
    · rw [if_pos c0, Int.toNat_natCast]
      have q := step (List.replicate w 0) (by unfold rowZ; rw [if_neg (by omega)])
      rw [← q]
      by_cases hr : room 8 (acc ++ List.replicate w 0).length
      · rw [if_pos ⟨by omega, hr⟩, if_pos hr]
      · rw [if_neg (fun q => hr q.2), if_neg hr]
    · rw [if_neg c0]
      by_cases c1 : n ≤ k
      · rw [if_pos c1, Int.toNat_natCast]
        have q := step (List.replicate w 0) (by unfold rowZ; rw [if_neg (by omega)])
        rw [← q]
        by_cases hr : room 8 (acc ++ List.replicate w 0).length
        · rw [if_pos ⟨by omega, hr⟩, if_pos hr]
        · rw [if_neg (fun q => hr q.2), if_neg hr]
      · have hrow := row_fits hl (show 0 ≤ k by omega) (show k < n by omega)
        obtain ⟨i, rfl⟩ := Int.eq_ofNat_of_zero_le (show 0 ≤ k by omega)
        have hrow' := hrow
        simp only [Int.toNat_natCast, Int.ofNat_eq_natCast] at hrow'
        rw [Nat.add_mul, Nat.one_mul] at hrow'
        have ee : (i : Int) * w = ((i * w : Nat) : Int) := by simp
        have ee2 : ((i : Int) + 1) * w = (i : Int) * w + w := by rw [Int.add_mul, Int.one_mul]
        rw [if_neg c1]
        simp only [Int.ofNat_eq_natCast] at *
        rw [ee2, w64_in (n := (i : Int) * w) (by omega), w64_in (n := (i : Int) * w + w) (by omega), cut_row (by unfold small; omega) (by simpa using hrow)]
        simp only [Option.bind_some]
        exact step _ (by unfold rowZ; rw [if_pos ⟨by omega, by omega⟩, Int.toNat_natCast])
theorem l_taken0 (n : Int) (s d S : List Int) (w : Nat) (hl : (d.length : Int) = n * w) (hw1 : w ≤ 1000) (hd : d.length ≤ 1000) (a x9 want : Int) (want1 : 0 ≤ want ∧ want ≤ 1000) (ha : -5000000000 ≤ a ∧ a ≤ 5000000000) : ∀ (m : Nat) (k : Int) (e : Nat) (acc : List Int), k + m = a + want → a ≤ k → (0 < m → x9 = w) → acc.length + m * w ≤ 1000 * 1000 →
    impl_taken_l0 L1 L2 L3 L4 (m + 1 + e) n want x9 a k s d S acc = some (.ok (S, acc ++ spanL d w n k m))
  | 0, k, e, acc, hk, hak, hx, hac => by
    rw [show 0 + 1 + e = e + 1 by omega]
    simp only [impl_taken_l0]
    rw [w64_in (n := a + want) (by omega), if_neg (by omega)]; simp [spanL]
  | m + 1, k, e, acc, hk, hak, hx, hac => by
    have hx' := hx (by omega)
    have h1 := l_taken1 L1 L2 L3 L4 n s d S w hl hw1 hd a x9 want want1 ha (m + 1) k e acc hk hak hx hac
    rw [show m + 1 + 1 + e = (m + 1 + e) + 1 by omega] at h1 ⊢
    simp only [impl_taken_l0]
    simp only [impl_taken_l1] at h1
    rw [Nat.add_mul, Nat.one_mul] at hac
    have e1 : w64 (k + 1) = k + 1 := w64_in (by omega)
    have hlt : k < a + want := by omega
    rw [← h1, w64_in (n := a + want) (by omega), e1, if_pos hlt, if_pos hlt]
    have ih : ∀ r : List Int, r.length = w → impl_taken_l0 L1 L2 L3 L4 (m + 1 + e) n want x9 a (k + 1) s d S (acc ++ r) = impl_taken_l1 L1 L2 L3 L4 (m + 1 + e) n want x9 a (k + 1) s d S (acc ++ r) := fun r hr => by
      rw [l_taken0 n s d S w hl hw1 hd a x9 want want1 ha m (k + 1) e _ (by omega) (by omega) (fun _ => hx') (by simp only [List.length_append, hr]; omega), l_taken1 L1 L2 L3 L4 n s d S w hl hw1 hd a x9 want want1 ha m (k + 1) e _ (by omega) (by omega) (fun _ => hx') (by simp only [List.length_append, hr]; omega)]
    rw [ih (List.replicate x9.toNat 0) (by subst hx'; simp)]
theorem taken1_0 (M : Nat) (n x9 a : Int) (s d S acc : List Int) (h1 : -4000000000 ≤ a) (h2 : a ≤ 4000000000) : impl_taken_l1 L1 L2 L3 L4 (M + 1) n ((0 : Nat) : Int) x9 a a s d S acc = some (.ok (S, acc)) := by
  simp only [impl_taken_l1]
  rw [w64_in (n := a + ((0 : Nat) : Int)) (by omega), if_neg (by omega)]
theorem taken0_0 (M : Nat) (n x9 a : Int) (s d S acc : List Int) (h1 : -4000000000 ≤ a) (h2 : a ≤ 4000000000) : impl_taken_l0 L1 L2 L3 L4 (M + 1) n ((0 : Nat) : Int) x9 a a s d S acc = some (.ok (S, acc)) := by
  simp only [impl_taken_l0]
  rw [w64_in (n := a + ((0 : Nat) : Int)) (by omega), if_neg (by omega)]
def pre_impl_taken (s d s' d' : List Int) : Prop := arrOk s d = true ∧ arrOk s' d' = true
def s_impl_taken (s d s' d' : List Int) : Res (List Int × List Int) := pans (xTake 2 s d s' d')
include h1 h2 h3 h4 in
theorem p_impl_taken (s d s' d' : List Int) (h : pre_impl_taken s d s' d') : ∃ N, impl_taken_f L1 L2 L3 L4 N s d s' d' = some (s_impl_taken s d s' d') := by
  obtain ⟨ha, hb⟩ := h
  refine ⟨1005, ?_⟩
  unfold impl_taken_f s_impl_taken
  rw [h1 _ _ ha]
  by_cases c : s.length = 0
  · obtain ⟨m, rfl, hm⟩ := one_cell ha c
    obtain ⟨n, t, ea, hc⟩ := ax_ok hb
    obtain ⟨w, hw, hl, hd, n0, n1, ht, hn⟩ := arr_rows hc
    obtain ⟨m1, m2⟩ := hm
    have e2 : ax s' d' = (n :: t, d') := Prod.ext ea (ax_d s' d')
    have d1 := (arrOk_small hb).2.2.2.1
    rw [xTake_eq c e2, show s_impl_numberOf s [m] = .ok m from if_pos c, bind_some', on_ok, h2 _ _ (arrOk_small hb).2.1, bind_some']
    unfold s_impl_asRows
    obtain ⟨q, hq⟩ : ∃ q : Nat, (if m < w64 (0 - m) then w64 (0 - m) else m) = (q : Int) ∧ ((m < 0 ∧ (q : Int) = -m) ∨ (0 ≤ m ∧ (q : Int) = m)) := by
      rw [w64_in (n := 0 - m) (by omega)]
      refine ⟨m.natAbs, ?_, ?_⟩
      · split <;> omega
      · omega
    obtain ⟨hq, hqm⟩ := hq
    rw [hq]
    have hwf : L3 (q : Int) (n :: t) = some ((q : Int) :: t) := by
      rw [h3 _ _ ⟨by simp only [List.length_cons]; omega, by simp⟩]; rfl
    have hmade : L4 ((q : Int) :: t) = some (s_impl_made ((q : Int) :: t)) := h4 _ (by unfold pre_impl_made small; simp only [List.length_cons]; omega)
    -- what is meant
    have goal2 : (if (2 : Int) = 2 then (if m < 0 then xSpan (n :: t) d' (n + m) (-m).toNat else xSpan (n :: t) d' 0 m.toNat) else if n ≤ m then xSpan (n :: t) d' 0 0 else if n ≤ -m then xSpan (n :: t) d' 0 0 else if m < 0 then xSpan (n :: t) d' 0 (n + m).toNat else xSpan (n :: t) d' m (n - m).toNat)
        = xSpan (n :: t) d' (if m < 0 then n - q else 0) q := by
      rw [if_pos rfl]
      rcases hqm with ⟨b1, b2⟩ | ⟨b1, b2⟩
      · rw [if_pos b1, if_pos b1, show (-m).toNat = q by omega, show n + m = n - q by omega]
      · rw [if_neg (by omega), if_neg (by omega), show m.toNat = q by omega]
    rw [goal2]
    by_cases hf : fits ((q : Int) :: t) = true
    · have hqt := fits_cons hf
      have hqw : (q : Int) * w ≤ 1000 := by rw [← hw]; exact hqt.2.2.2.1
      have hp : (prodI ((q : Int) :: t)).toNat = q * w := by rw [prodI, hw]; exact_mod_cast rfl
      have hqwn : q * w ≤ 1000 := by
        have e : ((q * w : Nat) : Int) = (q : Int) * w := by simp
        omega
      have hxs : ∀ a : Int, xSpan (n :: t) d' a q = .ok ((q : Int) :: t, spanL d' w n a q) := fun a => by
        rw [xSpan_cons, if_pos hf, hw]; rfl
      have hw1 : 0 < q → w ≤ 1000 := fun h0 => by
        have := Nat.mul_le_mul_right w (show 1 ≤ q by omega)
        omega
      have hm' : s_impl_made ((q : Int) :: t) = .ok ((q : Int) :: t, some (q * w), []) := by rw [made_fits hf, hp]
      -- the rows, from a on
      have run1 : ∀ a x9 : Int, -4000000000 ≤ a → a ≤ 4000000000 → (0 < q → x9 = w) → impl_taken_l1 L1 L2 L3 L4 1005 n q x9 a a (n :: t) d' ((q : Int) :: t) [] = some (.ok ((q : Int) :: t, spanL d' w n a q)) := fun a x9 q1 q2 q3 => by
        by_cases h0 : q = 0
        · subst h0
          exact taken1_0 L1 L2 L3 L4 1004 n x9 a (n :: t) d' _ [] q1 q2
        · have z := l_taken1 L1 L2 L3 L4 n (n :: t) d' ((q : Int) :: t) w hl (hw1 (by omega)) d1 a x9 q (by omega) (by omega) q a (1004 - q) [] rfl (Int.le_refl _) q3 (by simp; omega)
          rw [show q + 1 + (1004 - q) = 1005 by omega, List.nil_append] at z
          exact z
      have run0 : ∀ a x9 : Int, -4000000000 ≤ a → a ≤ 4000000000 → (0 < q → x9 = w) → impl_taken_l0 L1 L2 L3 L4 1005 n q x9 a a (n :: t) d' ((q : Int) :: t) [] = some (.ok ((q : Int) :: t, spanL d' w n a q)) := fun a x9 q1 q2 q3 => by
        by_cases h0 : q = 0
        · subst h0
          exact taken0_0 L1 L2 L3 L4 1004 n x9 a (n :: t) d' _ [] q1 q2
        · have z := l_taken0 L1 L2 L3 L4 n (n :: t) d' ((q : Int) :: t) w hl (hw1 (by omega)) d1 a x9 q (by omega) (by omega) q a (1004 - q) [] rfl (Int.le_refl _) q3 (by simp; omega)
          rw [show q + 1 + (1004 - q) = 1005 by omega, List.nil_append] at z
          exact z
      have hdiv : 0 < q → w64 (Int.tdiv ((q * w : Nat) : Int) (q : Int)) = w := fun h0 => by
        rw [show ((q * w : Nat) : Int) = (q : Int) * w by simp, Int.mul_tdiv_cancel_left _ (by omega)]
        have := hw1 h0
        exact w64_in (by omega)
      have i0 : idx (n :: t) 0 = some n := rfl
      have i2 : (n :: t)[0]? = some n := rfl
      have i3 : (0 : Int) < (n :: t).length := by simp only [List.length_cons]; omega
      have w1 : w64 (n - (q : Int)) = n - q := w64_in (by omega)
      rw [hxs]
      rcases axA_or s' d' with e | e <;> rw [e, e2] <;> simp only [Alt.on]
      · rw [if_pos i3, i2]
        simp only [Option.bind_some]
        rw [hwf]
        simp only [Option.bind_some]
        rw [hmade, hm']
        simp only [Option.bind_some, on_ok]
        by_cases h0 : (0 : Int) < q
        · rw [if_pos h0, if_neg (show ¬ (q : Int) = 0 by omega), hdiv (by omega), w1]
          by_cases hm0 : m < 0
          · rw [if_pos hm0, if_pos hm0]; exact run0 _ _ (by omega) (by omega) (fun _ => rfl)
          · rw [if_neg hm0, if_neg hm0]; exact run0 _ _ (by omega) (by omega) (fun _ => rfl)
        · rw [if_neg h0, w1]
          by_cases hm0 : m < 0
          · rw [if_pos hm0, if_pos hm0]; exact run0 _ _ (by omega) (by omega) (by omega)
          · rw [if_neg hm0, if_neg hm0]; exact run0 _ _ (by omega) (by omega) (by omega)
      · rw [i0]
        simp only [Option.bind_some]
        rw [hwf]
        simp only [Option.bind_some]
        rw [hmade, hm']
        simp only [Option.bind_some, on_ok]
        by_cases h0 : (0 : Int) < q
        · rw [if_pos h0, if_neg (show ¬ (q : Int) = 0 by omega), hdiv (by omega), w1]
          by_cases hm0 : m < 0
          · rw [if_pos hm0, if_pos hm0]; exact run1 _ _ (by omega) (by omega) (fun _ => rfl)
          · rw [if_neg hm0, if_neg hm0]; exact run1 _ _ (by omega) (by omega) (fun _ => rfl)
        · rw [if_neg h0, w1]
          by_cases hm0 : m < 0
          · rw [if_pos hm0, if_pos hm0]; exact run1 _ _ (by omega) (by omega) (by omega)
          · rw [if_neg hm0, if_neg hm0]; exact run1 _ _ (by omega) (by omega) (by omega)
    · have i0 : idx (n :: t) 0 = some n := rfl
      have i2 : (n :: t)[0]? = some n := rfl
      have i3 : (0 : Int) < (n :: t).length := by simp only [List.length_cons]; omega
      rw [xSpan_cons, if_neg hf]
      rcases axA_or s' d' with e | e <;> rw [e, e2] <;> simp only [Alt.on]
      · rw [if_pos i3, i2]
        simp only [Option.bind_some]
        rw [hwf]
        simp only [Option.bind_some]
        rw [hmade, made_not hf]; rfl
      · rw [i0]
        simp only [Option.bind_some]
        rw [hwf]
        simp only [Option.bind_some]
        rw [hmade, made_not hf]; rfl
  · rw [show s_impl_numberOf s d = .pan (thrown 2) from if_neg c, show xTake 2 s d s' d' = .error 2 from if_neg c]; rfl
end
-- drop
section
variable (L1 : List Int → List Int → Option (Res Int)) (h1 : ∀ s d, pre_impl_numberOf s d → L1 s d = some (s_impl_numberOf s d))
  (L2 : List Int → List Int → Option (Alt (List Int × List Int) (List Int × List Int))) (h2 : ∀ s d, pre_impl_asRows s d → L2 s d = some (s_impl_asRows s d))
  (L3 : List Int → List Int → Option (Int × Int)) (h3 : ∀ s d, pre_impl_rowsOf s d → L3 s d = some (s_impl_rowsOf s d))
  (L4 : Int → List Int → Option (List Int)) (h4 : ∀ n l, pre_impl_withFirst n l → L4 n l = some (s_impl_withFirst n l))
  (L5 : List Int → Option (Res (List Int × Option Nat × List Int))) (h5 : ∀ l, pre_impl_made l → L5 l = some (s_impl_made l))
include h4 h5 in
theorem drop_body (n : Int) (t d : List Int) (h : arrOk (n :: t) d = true) (z : Int) (hz : 0 < n → z = prodI t) (hz0 : n = 0 → z = 0) (k c : Nat) (F T : Int) (hF : F = k) (hT : T = ((k + c : Nat) : Int)) (hk : (k : Int) + c ≤ n) :
    ((L4 (w64 (T - F)) (n :: t)).bind fun y5 => (L5 y5).bind fun y6 => y6.on (fun y7 => (cut d (w64 (F * z)) (w64 (T * z))).bind fun y8 => if room 8 (y7.2.2 ++ y8).length then some (.ok (y7.1, y7.2.2 ++ y8)) else none) (fun y7 => some (.pan y7)))
      = some (pans (xSpan (n :: t) d k c)) := by
  obtain ⟨w, hw, hl, hd, n0, n1, ht, hn⟩ := arr_rows h
  subst hF hT
  have e1 : w64 (((k + c : Nat) : Int) - (k : Int)) = c := by rw [w64_in (by omega)]; omega
  have hf : fits ((c : Int) :: t) = true := fits_le (arrOk_cells h).2.1 (by omega)
  have e2 : L4 (c : Int) (n :: t) = some ((c : Int) :: t) := by rw [h4 _ _ ⟨by simp only [List.length_cons]; omega, by simp⟩]; rfl
  rw [e1, e2, bind_some', h5 _ (by unfold pre_impl_made small; simp only [List.length_cons]; omega), bind_some', made_fits hf, on_ok, xSpan_cons, if_pos hf, hw, Int.toNat_natCast]
  have d1 := (arrOk_small h).2.2.2.1
  by_cases c0 : n = 0
  · have hk0 : k = 0 := by omega
    have hc0 : c = 0 := by omega
    subst hk0 hc0
    rw [hz0 c0]
    have e3 : w64 (((0 : Nat) : Int) * 0) = 0 := by rw [Int.mul_zero]; exact w64_in (by omega)
    have e5 : cut d 0 0 = some [] := by
      unfold cut
      rw [if_pos (by omega)]; simp
    rw [e3, e5, bind_some', if_pos (room_small (by unfold small; simp))]
    rfl
  · have hz' := hz (by omega)
    rw [hw] at hz'
    subst hz'
    have hw0 : 0 ≤ (w : Int) := by omega
    have q1 : ((k + c : Nat) : Int) * w ≤ n * w := Int.mul_le_mul_of_nonneg_right (by omega) hw0
    have q2 : (k : Int) * w ≤ ((k + c : Nat) : Int) * w := Int.mul_le_mul_of_nonneg_right (by omega) hw0
    have q3 : 0 ≤ (k : Int) * w := Int.mul_nonneg (by omega) hw0
    have q4 : (k + c) * w ≤ d.length := by
      have e : (((k + c) * w : Nat) : Int) = ((k + c : Nat) : Int) * w := by simp
      omega
    rw [w64_in (n := (k : Int) * w) (by omega), w64_in (n := ((k + c : Nat) : Int) * w) (by omega), cut_rows q4, bind_some', if_pos (room_small (by unfold small; simp only [List.length_append, List.length_nil, List.length_take, List.length_drop]; omega)), spanL_in c k (by omega)]
    rfl
def pre_impl_dropped (s d s' d' : List Int) : Prop := arrOk s d = true ∧ arrOk s' d' = true
def s_impl_dropped (s d s' d' : List Int) : Res (List Int × List Int) := pans (xTake 3 s d s' d')
include h1 h2 h3 h4 h5 in
theorem p_impl_dropped (s d s' d' : List Int) (h : pre_impl_dropped s d s' d') : ∃ N, impl_dropped_f L1 L2 L3 L4 L5 N s d s' d' = some (s_impl_dropped s d s' d') := by
  obtain ⟨ha, hb⟩ := h
  refine ⟨0, ?_⟩
  unfold impl_dropped_f s_impl_dropped
  rw [h1 _ _ ha]
  by_cases c : s.length = 0
  · obtain ⟨m, rfl, hm⟩ := one_cell ha c
    obtain ⟨n, t, ea, hc⟩ := ax_ok hb
    obtain ⟨w, hw, hl, hd, n0, n1, ht, hn⟩ := arr_rows hc
    obtain ⟨m1, m2⟩ := hm
    have e2 : ax s' d' = (n :: t, d') := Prod.ext ea (ax_d s' d')
    rw [xTake_eq c e2, show s_impl_numberOf s [m] = .ok m from if_pos c, bind_some', on_ok, h2 _ _ (arrOk_small hb).2.1, bind_some']
    unfold s_impl_asRows
    have hr : L3 (n :: t) d' = some (s_impl_rowsOf (n :: t) d') := h3 _ _ ⟨hc, n, t, rfl⟩
    have hz : 0 < n → (s_impl_rowsOf (n :: t) d').2 = prodI t := rowsOf_snd
    have hz0 : n = 0 → (s_impl_rowsOf (n :: t) d').2 = 0 := fun q => by rw [rowsOf_cons, if_pos q]
    -- where it begins and ends
    obtain ⟨k, cc, hF, hT, hk, hX⟩ : ∃ k cc : Nat, (if n < (if m < 0 then 0 else m) then n else (if m < 0 then 0 else m)) = (k : Int) ∧ (if w64 (n + if 0 < m then 0 else m) < 0 then 0 else w64 (n + if 0 < m then 0 else m)) = ((k + cc : Nat) : Int) ∧ (k : Int) + cc ≤ n ∧
        (if (3 : Int) = 2 then (if m < 0 then xSpan (n :: t) d' (n + m) (-m).toNat else xSpan (n :: t) d' 0 m.toNat) else if n ≤ m then xSpan (n :: t) d' 0 0 else if n ≤ -m then xSpan (n :: t) d' 0 0 else if m < 0 then xSpan (n :: t) d' 0 (n + m).toNat else xSpan (n :: t) d' m (n - m).toNat) = xSpan (n :: t) d' k cc := by
      have hw1 : w64 (n + if 0 < m then 0 else m) = n + if 0 < m then 0 else m := by split <;> exact w64_in (by omega)
      rw [hw1, if_neg (show ¬ (3 : Int) = 2 by omega)]
      by_cases A : n ≤ m
      · refine ⟨n.toNat, 0, ?_, ?_, by omega, ?_⟩
        · split <;> split <;> omega
        · split <;> split <;> omega
        · rw [if_pos A]; rfl
      · rw [if_neg A]
        by_cases B : n ≤ -m
        · refine ⟨0, 0, ?_, ?_, by omega, ?_⟩
          · split <;> split <;> omega
          · split <;> split <;> omega
          · rw [if_pos B]; rfl
        · rw [if_neg B]
          by_cases C : m < 0
          · refine ⟨0, (n + m).toNat, ?_, ?_, by omega, ?_⟩
            · split <;> split <;> omega
            · split <;> split <;> omega
            · rw [if_pos C]; rfl
          · refine ⟨m.toNat, (n - m).toNat, ?_, ?_, by omega, ?_⟩
            · split <;> split <;> omega
            · split <;> split <;> omega
            · rw [if_neg C, show ((m.toNat : Nat) : Int) = m by omega]
    rw [hX]
    have body := drop_body L4 h4 L5 h5 n t d' hc _ hz hz0 k cc k ((k + cc : Nat) : Int) rfl rfl hk
    have hlt : ¬ (((k + cc : Nat) : Int) < (k : Int)) := by omega
    rcases axA_or s' d' with e | e <;> rw [e, e2] <;> simp only [alt_a, alt_b] <;> rw [hr, bind_some', rowsOf_fst, hF, hT, if_neg hlt] <;> exact body
  · rw [show s_impl_numberOf s d = .pan (thrown 2) from if_neg c, show xTake 3 s d s' d' = .error 2 from if_neg c]; rfl
end

-- cat
section
variable (L1 : List Int → List Int → Option (Alt (List Int × List Int) (List Int × List Int))) (h1 : ∀ s d, pre_impl_asRows s d → L1 s d = some (s_impl_asRows s d))
  (L2 : List Int → List Int → Option Bool) (h2 : ∀ a b, pre_slices_Equal___int_int_ a b → L2 a b = some (s_slices_Equal___int_int_ a b))
  (L3 : Int → List Int → Option (List Int)) (h3 : ∀ n l, pre_impl_withFirst n l → L3 n l = some (s_impl_withFirst n l))
  (L4 : List Int → Option (Res (List Int × Option Nat × List Int))) (h4 : ∀ l, pre_impl_made l → L4 l = some (s_impl_made l))
include h2 h3 h4
theorem icat_body (n n' : Int) (t t' d d' : List Int) (ht : t.length ≤ 3) (hn : 0 ≤ n ∧ n ≤ 1000) (hn' : 0 ≤ n' ∧ n' ≤ 1000) (hd : d.length ≤ 1000) (hd' : d'.length ≤ 1000) (l l' : Int) (hl : l = ((n :: t).length : Int)) (hl' : l' = ((n' :: t').length : Int)) (he : t.length = t'.length) :
    ((cut (n :: t) 1 l).bind fun y4 => (cut (n' :: t') 1 l').bind fun y5 => (L2 y4 y5).bind fun y6 => if y6 = false then some (.pan (D.ifaceS 90 [D.int .i64 3])) else ((idx (n :: t) 0).bind fun y7 => (idx (n' :: t') 0).bind fun y8 =>
      (L3 (w64 (y7 + y8)) (n :: t)).bind fun y9 => (L4 y9).bind fun y10 => y10.on (fun y11 => if room 8 (y11.2.2 ++ d).length then (if room 8 (y11.2.2 ++ d ++ d').length then some (.ok (y11.1, y11.2.2 ++ d ++ d')) else none) else none) (fun y11 => some (.pan y11))))
      = some (pans (catB (n :: t) d (n' :: t') d')) := by
  subst hl hl'
  rw [cut_tail, cut_tail]
  simp only [Option.bind_some]
  rw [h2 _ _ (by unfold pre_slices_Equal___int_int_ small; omega), show idx (n :: t) 0 = some n from rfl, show idx (n' :: t') 0 = some n' from rfl]
  simp only [Option.bind_some, s_slices_Equal___int_int_]
  have e : catB (n :: t) d (n' :: t') d' = if t = t' then (if fits ((n + n') :: t) = true then .ok ((n + n') :: t, d ++ d') else .error 6) else .error 3 := if_pos (by simp only [List.length_cons]; omega)
  rw [e]
  by_cases c : t = t'
  · rw [if_neg (by simp [c]), if_pos c, w64_in (by omega), h3 _ _ ⟨by simp only [List.length_cons]; omega, by simp⟩]
    simp only [Option.bind_some]
    rw [show s_impl_withFirst (n + n') (n :: t) = (n + n') :: t from rfl, h4 _ (by unfold pre_impl_made small; simp only [List.length_cons]; omega), bind_some']
    by_cases hf : fits ((n + n') :: t) = true
    · rw [made_fits hf, on_ok, if_pos hf, List.nil_append, if_pos (room_small (by unfold small; omega)), if_pos (room_small (by unfold small; simp only [List.length_append]; omega))]; rfl
    · rw [made_not hf, if_neg hf]; rfl
  · rw [if_pos (by simp [c]), if_neg c]; rfl
def pre_impl_catenated (s d s' d' : List Int) : Prop := arrOk s d = true ∧ arrOk s' d' = true
def s_impl_catenated (s d s' d' : List Int) : Res (List Int × List Int) := pans (xCat s d s' d')
include h1 in
theorem p_impl_catenated (s d s' d' : List Int) (h : pre_impl_catenated s d s' d') : ∃ N, impl_catenated_f L1 L2 L3 L4 N s d s' d' = some (s_impl_catenated s d s' d') := by
  obtain ⟨ha, hb⟩ := h
  refine ⟨0, ?_⟩
  unfold impl_catenated_f s_impl_catenated xCat
  obtain ⟨n, t, e1, hc⟩ := ax_ok ha
  obtain ⟨n', t', e1', hc'⟩ := ax_ok hb
  have e2 : ax s d = (n :: t, d) := Prod.ext e1 (ax_d s d)
  have e2' : ax s' d' = (n' :: t', d') := Prod.ext e1' (ax_d s' d')
  obtain ⟨w, hw, hl, hd, n0, n1, ht, hn⟩ := arr_rows hc
  obtain ⟨w', hw', hl', hd', n0', n1', ht', hn'⟩ := arr_rows hc'
  have d1 := (arrOk_small ha).2.2.2.1
  have d1' := (arrOk_small hb).2.2.2.1
  rw [h1 _ _ (arrOk_small ha).2.1, h1 _ _ (arrOk_small hb).2.1]
  simp only [Option.bind_some, s_impl_asRows]
  have w1 : w64 (((n :: t).length : Int) - ((n' :: t').length : Int)) = ((n :: t).length : Int) - ((n' :: t').length : Int) := w64_in (by simp only [List.length_cons]; omega)
  have r1 : room 8 ((n' :: t').length + 1) := by unfold room roomB; simp only [List.length_cons]; omega
  have r2 : room 8 ((n :: t).length + 1) := by unfold room roomB; simp only [List.length_cons]; omega
  rcases axA_or s d with e | e <;> rcases axA_or s' d' with e' | e' <;> rw [e, e', e2, e2'] <;> simp only [alt_a, alt_b, w1, if_pos r1, if_pos r2] <;> unfold catA
  all_goals
    by_cases c3 : (n :: t).length = (n' :: t').length
    · rw [if_pos (show ((n :: t).length : Int) - ((n' :: t').length : Int) = 0 by omega), if_neg (show ¬ (n :: t).length = (n' :: t').length + 1 by omega), if_neg (show ¬ (n' :: t').length = (n :: t).length + 1 by omega)]
      exact icat_body L2 h2 L3 h3 L4 h4 n n' t t' d d' (by omega) ⟨n0, n1⟩ ⟨n0', n1'⟩ d1 d1' _ _ rfl rfl (by simp only [List.length_cons] at *; omega)
    · rw [if_neg (show ¬ ((n :: t).length : Int) - ((n' :: t').length : Int) = 0 by omega)]
      by_cases c1 : (n :: t).length = (n' :: t').length + 1
      · rw [if_pos (show ((n :: t).length : Int) - ((n' :: t').length : Int) = 1 by omega), if_pos c1]
        exact icat_body L2 h2 L3 h3 L4 h4 n 1 t (n' :: t') d d' (by omega) ⟨n0, n1⟩ (by omega) d1 d1' _ _ rfl (by simp only [List.length_cons]) (by simp only [List.length_cons] at *; omega)
      · rw [if_neg (show ¬ ((n :: t).length : Int) - ((n' :: t').length : Int) = 1 by omega), if_neg c1]
        by_cases c2 : (n' :: t').length = (n :: t).length + 1
        · rw [if_pos (show ((n :: t).length : Int) - ((n' :: t').length : Int) = -1 by omega), if_pos c2]
          exact icat_body L2 h2 L3 h3 L4 h4 1 n' (n :: t) t' d d' (by simp only [List.length_cons]; omega) (by omega) ⟨n0', n1'⟩ d1 d1' _ _ (by simp only [List.length_cons]) rfl (by simp only [List.length_cons] at *; omega)
        · rw [if_neg (show ¬ ((n :: t).length : Int) - ((n' :: t').length : Int) = -1 by omega), if_neg c2]
          rw [show catB (n :: t) d (n' :: t') d' = .error 2 from if_neg c3]; rfl
end

-- from
section
variable (L1 : List (List Int) → Option (Res (List Int))) (h1 : ∀ l, pre_slices_Concat___int_int_ l → L1 l = some (s_slices_Concat___int_int_ l))
  (L2 : List Int → Option (Res (List Int × Option Nat × List Int))) (h2 : ∀ l, pre_impl_made l → L2 l = some (s_impl_made l))
  (L3 : List Int → List Int → Option (Int × Int)) (h3 : ∀ s d, pre_impl_rowsOf s d → L3 s d = some (s_impl_rowsOf s d))
theorem l_picked (d : List Int) (n : Int) (s' d' S : List Int) (w : Nat) (z : Int) (hl : (d'.length : Int) = n * w) (hn : n * w ≤ 1000) (hn1 : n ≤ 1000) (hd : d.length ≤ 1000) (hd' : d'.length ≤ 1000) (hz : 0 < n → z = w) : ∀ (r : List Int) (j e : Nat) (acc : List Int), d.drop j = r → acc.length ≤ j * 1000 →
    impl_picked_l0 L1 L2 L3 (r.length + 1 + e) n z d d.length j s' d' S acc = some (pans (bhd S acc (gather n d' w r)))
  | [], j, e, acc, hr, ha => by
    rw [show ([] : List Int).length + 1 + e = e + 1 by simp; omega]
    simp only [impl_picked_l0]
    rw [if_neg (at_nil hr), bhd_nil]; rfl
  | x :: r, j, e, acc, hr, ha => by
    obtain ⟨q1, q2, q3, q4, q5, q6⟩ := at_cons hr
    rw [show (x :: r).length + 1 + e = (r.length + 1 + e) + 1 by simp; omega]
    simp only [impl_picked_l0]
    rw [if_pos q2, q3]
    simp only [Option.bind_some]
    by_cases c : x < 0
    · rw [if_pos c, bhd_err _ _ _ _ _ _ _ (.inl c)]; rfl
    · rw [if_neg c]
      by_cases c' : n ≤ x
      · rw [if_pos c', bhd_err _ _ _ _ _ _ _ (.inr c')]; rfl
      · have hrow := row_fits hl (show 0 ≤ x by omega) (show x < n by omega)
        have hz' := hz (by omega)
        subst hz'
        have hw1 : w ≤ 1000 := by
          have := Int.mul_le_mul_of_nonneg_right (show (1 : Int) ≤ n by omega) (show 0 ≤ (w : Int) by omega)
          omega
        obtain ⟨i, rfl⟩ := Int.eq_ofNat_of_zero_le (show 0 ≤ x by omega)
        simp only [Int.ofNat_eq_natCast, Int.toNat_natCast] at *
        have hrow' := hrow
        rw [Nat.add_mul, Nat.one_mul] at hrow'
        have ee : (i : Int) * w = ((i * w : Nat) : Int) := by simp
        have ee2 : ((i : Int) + 1) * w = (i : Int) * w + w := by rw [Int.add_mul, Int.one_mul]
        rw [if_neg c', w64_in (n := (i : Int) + 1) (by omega), ee2, w64_in (n := (i : Int) * w) (by omega), w64_in (n := (i : Int) * w + w) (by omega), cut_row (by unfold small; omega) hrow]
        simp only [Option.bind_some]
        have hlen := nthRow_len hrow
        rw [bhd_cons _ _ _ _ _ _ _ c c', Int.toNat_natCast, if_pos (room_small (by unfold small; simp only [List.length_append, hlen]; omega)), succ_w q1 (by rw [big_eq]; omega),
          l_picked d n s' d' S w w hl hn hn1 hd hd' (fun _ => rfl) r (j + 1) e _ q5 (by simp only [List.length_append, hlen]; omega)]
def pre_impl_picked (s d s' d' : List Int) : Prop := arrOk s d = true ∧ arrOk s' d' = true
def s_impl_picked (s d s' d' : List Int) : Res (List Int × List Int) := pans (xFrom s d s' d')
include h1 h2 h3 in
theorem p_impl_picked (s d s' d' : List Int) (h : pre_impl_picked s d s' d') : ∃ N, impl_picked_f L1 L2 L3 N s d s' d' = some (s_impl_picked s d s' d') := by
  obtain ⟨ha, hb⟩ := h
  refine ⟨d.length + 1, ?_⟩
  unfold impl_picked_f s_impl_picked
  cases s' with
  | nil => rw [if_pos (show (([] : List Int).length : Int) = 0 from rfl)]; rfl
  | cons n t =>
    obtain ⟨w, hw, hl, hd, n0, n1, ht, hn⟩ := arr_rows hb
    obtain ⟨a1, a2, a3, a4, a5⟩ := arrOk_small ha
    rw [if_neg (by simp only [List.length_cons]; omega), cut_tail, bind_some', h1 _ ⟨s, t, rfl, a3, by omega⟩, bind_some',
      show s_slices_Concat___int_int_ [s, t] = .ok (s ++ t) by simp [s_slices_Concat___int_int_], on_ok, h2 _ (by unfold pre_impl_made small; simp only [List.length_append]; omega), bind_some']
    have ex : xFrom s d (n :: t) d' = if fits (s ++ t) = true then bhd (s ++ t) [] (gather n d' (prodI t).toNat d) else .error 6 := rfl
    rw [ex]
    by_cases hf : fits (s ++ t) = true
    · rw [made_fits hf, on_ok, h3 _ _ ⟨hb, n, t, rfl⟩, bind_some', rowsOf_fst, if_pos hf, hw, Int.toNat_natCast]
      exact l_picked L1 L2 L3 d n (n :: t) d' (s ++ t) w _ hl hn n1 a4 (arrOk_small hb).2.2.2.1 (fun q => (rowsOf_snd q).trans hw) d 0 0 [] rfl (by simp)
    · rw [made_not hf, if_neg hf]; rfl
end
-- find
theorem look_put {o : List (Int × Int)} {k w v : Int} : look (putM o k w) v = if k = v then some w else look o v := by
  induction o with
  | nil => simp only [putM, look]
  | cons p o ih =>
    simp only [putM]
    by_cases c : p.1 = k
    · rw [if_pos c]
      simp only [look]
      by_cases c' : k = v
      · rw [if_pos c', if_pos c']
      · rw [if_neg c', if_neg c', if_neg (by rw [c]; exact c')]
    · rw [if_neg c]
      simp only [look]
      by_cases c1 : p.1 = v
      · rw [if_pos c1, if_pos c1, if_neg (by intro q; exact c (c1.trans q.symm))]
      · rw [if_neg c1, if_neg c1, ih]
def lk : List Int → Nat → Int → Option Int
  | [], _, _ => none
  | x :: r, j, v => if x = v then some (j : Int) else lk r (j + 1) v
theorem lk_fnd : ∀ (r : List Int) (j : Nat) (v : Int), ((lk r j v).isSome = false → fnd r v = r.length) ∧ ((lk r j v).isSome = true → (lk r j v).getD 0 = (j : Int) + fnd r v)
  | [], j, v => ⟨fun _ => rfl, fun h => by cases h⟩
  | x :: r, j, v => by
    have ih := lk_fnd r (j + 1) v
    simp only [lk, fnd, List.length_cons]
    by_cases c : x = v
    · rw [if_pos c, if_pos c]; simp
    · rw [if_neg c, if_neg c]
      exact ⟨fun h => by rw [ih.1 h], fun h => by rw [ih.2 h]; omega⟩
section
variable (L : List Int → Option (Res (List Int × Option Nat × List Int))) (hL : ∀ l, pre_impl_made l → L l = some (s_impl_made l))
theorem l_found1 (s d d' S : List Int) (o : List (Int × Int)) (hd' : small d') (ho : ∀ v, look o v = lk d 0 v) : ∀ (r : List Int) (j e : Nat) (acc : List Int), d'.drop j = r → acc.length = j →
    impl_found_l1 L (r.length + 1 + e) d' d'.length j s d o S acc = some (.ok (S, acc ++ r.map fun v => (fnd d v : Int)))
  | [], j, e, acc, hr, ha => by
    rw [show ([] : List Int).length + 1 + e = e + 1 by simp; omega]
    simp only [impl_found_l1]
    rw [if_neg (at_nil hr)]; simp
  | x :: r, j, e, acc, hr, ha => by
    obtain ⟨q1, q2, q3, q4, q5, q6⟩ := at_cons hr
    have hdl : d'.length ≤ 1048576 := hd'
    rw [show (x :: r).length + 1 + e = (r.length + 1 + e) + 1 by simp; omega]
    simp only [impl_found_l1]
    rw [if_pos q2, q3]
    simp only [Option.bind_some]
    rw [ho x, succ_w q1 (by rw [big_eq]; omega)]
    have fin : ∀ z : Int, z = fnd d x → (if room 8 (acc ++ [z]).length then impl_found_l1 L (r.length + 1 + e) d' d'.length ((j + 1 : Nat) : Int) s d o S (acc ++ [z]) else none) = some (.ok (S, acc ++ List.map (fun v => (fnd d v : Int)) (x :: r))) := by
      intro z hz
      rw [if_pos (room_small (by unfold small; simp only [List.length_append, List.length_cons, List.length_nil]; omega)), l_found1 s d d' S o hd' ho r (j + 1) e _ q5 (by simp [ha]), hz]
      simp
    obtain ⟨k1, k2⟩ := lk_fnd d 0 x
    cases hs : (lk d 0 x).isSome with
    | false => rw [if_pos rfl]; exact fin _ (by rw [k1 hs])
    | true => rw [if_neg (by simp)]; exact fin _ (by rw [k2 hs]; simp)
include hL in
theorem l_found0 (s d s' d' : List Int) (hd : small d) (hb : arrOk s' d' = true) (N : Nat) (hN : d'.length + 1 ≤ N) : ∀ (j e : Nat) (o : List (Int × Int)), j ≤ d.length → (∀ v, look o v = lk (d.drop j) j v) →
    impl_found_l0 L N (j + 1 + e) ((j : Int) - 1) s d s' d' o = some (.ok (s', d'.map fun v => (fnd d v : Int)))
  | 0, e, o, hj, ho => by
    rw [show 0 + 1 + e = e + 1 by omega]
    simp only [impl_found_l0]
    rw [if_neg (by omega), hL _ (arrOk_small hb).1, bind_some', made_fits (arrOk_cells hb).2.1, on_ok]
    obtain ⟨e', rfl⟩ : ∃ e', N = d'.length + 1 + e' := ⟨N - (d'.length + 1), by omega⟩
    have q := l_found1 L s d d' s' o (arrOk_small hb).2.1 (fun v => by rw [ho v]; rfl) d' 0 e' [] rfl rfl
    simpa using q
  | j + 1, e, o, hj, ho => by
    have hdl : d.length ≤ 1048576 := hd
    rw [show j + 1 + 1 + e = (j + 1 + e) + 1 by omega]
    simp only [impl_found_l0]
    obtain ⟨x, hx⟩ : ∃ x, d[j]? = some x := ⟨_, List.getElem?_eq_getElem (show j < d.length by omega)⟩
    have hdr : d.drop j = x :: d.drop (j + 1) := by
      obtain ⟨h1, h2⟩ := List.getElem?_eq_some_iff.1 hx
      rw [List.drop_eq_getElem_cons h1, h2]
    have e1 : (((j + 1 : Nat) : Int) - 1) = (j : Int) := by omega
    rw [e1, if_pos (by omega), idx_nat, hx]
    simp only [Option.bind_some]
    rw [w64_in (n := (j : Int) - 1) (by omega)]
    refine l_found0 s d s' d' hd hb N hN j e _ (by omega) fun v => ?_
    rw [look_put, ho v, hdr]
    rfl
def pre_impl_found (s d s' d' : List Int) : Prop := arrOk s d = true ∧ arrOk s' d' = true
def s_impl_found (s d s' d' : List Int) : Res (List Int × List Int) := pans (xFind s d s' d')
include hL in
theorem p_impl_found (s d s' d' : List Int) (h : pre_impl_found s d s' d') : ∃ N, impl_found_f L N s d s' d' = some (s_impl_found s d s' d') := by
  obtain ⟨ha, hb⟩ := h
  have hdl := (arrOk_small ha).2.2.2.1
  refine ⟨d.length + 1 + (d'.length + 1), ?_⟩
  unfold impl_found_f s_impl_found xFind
  by_cases c : s.length = 1
  · rw [if_pos (by omega), if_pos c, w64_in (by omega)]
    exact l_found0 L hL s d s' d' (arrOk_small ha).2.1 hb _ (by omega) d.length (d'.length + 1) [] (Nat.le_refl _) (fun v => by rw [List.drop_length]; rfl)
  · rw [if_neg (by omega), if_neg c]; rfl
end
-- match
def pre_impl_Dyad_1 (s d s' d' : List Int) : Prop := small s ∧ small d
def s_impl_Dyad_1 (s d s' d' : List Int) : List Int × List Int := xMatch s d s' d'
theorem p_impl_Dyad_1 (L1 : List Int → List Int → Option Bool) (h1 : ∀ a b, pre_slices_Equal___int_int_ a b → L1 a b = some (s_slices_Equal___int_int_ a b)) (L2 : Bool → Option Int) (h2 : ∀ b, pre_impl_truth b → L2 b = some (s_impl_truth b))
    (L3 : Int → Option (List Int × List Int)) (h3 : ∀ x, pre_impl_scalarOf x → L3 x = some (s_impl_scalarOf x)) (s d s' d' : List Int) (h : pre_impl_Dyad_1 s d s' d') : ∃ N, impl_Dyad_1_f L1 L2 L3 N s d s' d' = some (s_impl_Dyad_1 s d s' d') := by
  refine ⟨0, ?_⟩
  unfold impl_Dyad_1_f s_impl_Dyad_1
  rw [h1 _ _ h.1, h1 _ _ h.2]
  simp only [Option.bind_some, s_slices_Equal___int_int_]
  by_cases c : s = s'
  · rw [if_pos (by simp [c]), h2 _ trivial]
    simp only [Option.bind_some]
    rw [h3 _ trivial]
    simp [s_impl_scalarOf, s_impl_truth, xMatch, c]
  · rw [if_neg (by simp [c]), h2 _ trivial]
    simp only [Option.bind_some]
    rw [h3 _ trivial]
    simp [s_impl_scalarOf, s_impl_truth, xMatch, c]
def pre_impl_Dyad (f : Int) (s d s' d' : List Int) : Prop := pre_spec_Dyad f s d s' d'
def s_impl_Dyad (f : Int) (s d s' d' : List Int) : List Int × List Int × Int := s_spec_Dyad f s d s' d'
theorem caughtN (L : D → Int → List Int → List Int → Option Int) (h : ∀ x a s d, pre_impl_caught x a s d → L (thrown x) a s d = some (s_impl_caught x a s d)) (X : Except Int (List Int × List Int)) (a : Int) :
    ((some (pans X)).bind fun y0 => y0.on (fun y1 => some (y1.1, y1.2, (0 : Int))) (fun y1 => (L y1 a [] []).bind fun y2 => some ([], [], y2))) = some (tri X) := by
  cases X with
  | ok p => rfl
  | error c =>
    simp only [Option.bind_some, pans, on_pan]
    rw [h _ _ _ _ trivial]; rfl
theorem p_impl_Dyad (L1 : List Int → List Int → List Int → List Int → Option (Res (List Int × List Int))) (h1 : ∀ s d s' d', pre_impl_reshaped s d s' d' → L1 s d s' d' = some (s_impl_reshaped s d s' d'))
    (L2 : List Int → List Int → List Int → List Int → Option (Res (List Int × List Int))) (h2 : ∀ s d s' d', pre_impl_taken s d s' d' → L2 s d s' d' = some (s_impl_taken s d s' d'))
    (L3 : List Int → List Int → List Int → List Int → Option (Res (List Int × List Int))) (h3 : ∀ s d s' d', pre_impl_dropped s d s' d' → L3 s d s' d' = some (s_impl_dropped s d s' d'))
    (L4 : List Int → List Int → List Int → List Int → Option (Res (List Int × List Int))) (h4 : ∀ s d s' d', pre_impl_catenated s d s' d' → L4 s d s' d' = some (s_impl_catenated s d s' d'))
    (L5 : List Int → List Int → List Int → List Int → Option (Res (List Int × List Int))) (h5 : ∀ s d s' d', pre_impl_picked s d s' d' → L5 s d s' d' = some (s_impl_picked s d s' d'))
    (L6 : List Int → List Int → List Int → List Int → Option (Res (List Int × List Int))) (h6 : ∀ s d s' d', pre_impl_found s d s' d' → L6 s d s' d' = some (s_impl_found s d s' d'))
    (L7 : List Int → List Int → List Int → List Int → Option (List Int × List Int)) (h7 : ∀ s d s' d', pre_impl_Dyad_1 s d s' d' → L7 s d s' d' = some (s_impl_Dyad_1 s d s' d'))
    (L8 : List Int → List Int → Option Bool) (h8 : ∀ s d, pre_impl_ArrayOk s d → L8 s d = some (s_impl_ArrayOk s d))
    (L9 : D → Int → List Int → List Int → Option Int) (h9 : ∀ x a s d, pre_impl_caught x a s d → L9 (thrown x) a s d = some (s_impl_caught x a s d))
    (f : Int) (s d s' d' : List Int) (h : pre_impl_Dyad f s d s' d') : ∃ N, impl_Dyad_f L1 L2 L3 L4 L5 L6 L7 L8 L9 N f s d s' d' = some (s_impl_Dyad f s d s' d') := by
  obtain ⟨ss, sd, ss', sd'⟩ := h
  refine ⟨0, ?_⟩
  unfold impl_Dyad_f s_impl_Dyad s_spec_Dyad
  by_cases c1 : f < 1
  · rw [if_pos c1, if_neg (fun q => by have := q.1.1; omega)]
  rw [if_neg c1]
  by_cases c2 : 7 < f
  · rw [if_pos c2, if_neg (fun q => by have := q.1.2; omega)]
  rw [if_neg c2, h8 _ _ ⟨ss, sd⟩, h8 _ _ ⟨ss', sd'⟩]
  simp only [Option.bind_some, s_impl_ArrayOk]
  cases ha : arrOk s d with
  | false => rw [if_pos rfl, if_neg (fun q => by cases q.2.1)]
  | true =>
  rw [if_neg (by simp)]
  cases hb : arrOk s' d' with
  | false => rw [if_pos rfl, if_neg (fun q => by cases q.2.2)]
  | true =>
  rw [if_neg (by simp), if_pos (show (1 ≤ f ∧ f ≤ 7) ∧ true = true ∧ true = true from ⟨⟨by omega, by omega⟩, rfl, rfl⟩)]
  unfold impl_Dyad_b_f
  rw [if_pos (by omega), if_neg (by omega)]
  have hf : f = 1 ∨ f = 2 ∨ f = 3 ∨ f = 4 ∨ f = 5 ∨ f = 6 ∨ f = 7 := by omega
  rcases hf with rfl | rfl | rfl | rfl | rfl | rfl | rfl
  · rw [if_pos (by decide), h1 _ _ _ _ trivial]; exact caughtN L9 h9 _ _
  · rw [if_neg (by decide), if_pos (by decide), h2 _ _ _ _ ⟨ha, hb⟩]; exact caughtN L9 h9 _ _
  · rw [if_neg (by decide), if_neg (by decide), if_pos (by decide), h3 _ _ _ _ ⟨ha, hb⟩]; exact caughtN L9 h9 _ _
  · rw [if_neg (by decide), if_neg (by decide), if_neg (by decide), if_pos (by decide), h4 _ _ _ _ ⟨ha, hb⟩]; exact caughtN L9 h9 _ _
  · rw [if_neg (by decide), if_neg (by decide), if_neg (by decide), if_neg (by decide), if_pos (by decide), h5 _ _ _ _ ⟨ha, hb⟩]; exact caughtN L9 h9 _ _
  · rw [if_neg (by decide), if_neg (by decide), if_neg (by decide), if_neg (by decide), if_neg (by decide), if_pos (by decide), h6 _ _ _ _ ⟨ha, hb⟩]; exact caughtN L9 h9 _ _
  · rw [if_neg (by decide), if_neg (by decide), if_neg (by decide), if_neg (by decide), if_neg (by decide), if_neg (by decide), if_pos (by decide), h7 _ _ _ _ ⟨ss, sd⟩]; rfl
-- results are small
theorem span_small {s d : List Int} (h : arrOk s d = true) (hs : ∃ n t, s = n :: t) {k : Int} {c : Nat} {p : List Int × List Int} (he : xSpan s d k c = .ok p) : small p.1 ∧ small p.2 := by
  obtain ⟨n, t, rfl⟩ := hs
  obtain ⟨w, hw, hl, hd, n0, n1, ht, hn⟩ := arr_rows h
  rw [xSpan_cons] at he
  by_cases hf : fits ((c : Int) :: t) = true
  · rw [if_pos hf] at he
    cases he
    have q := (fits_cons hf).2.2.2.1
    rw [hw] at q
    have e : ((c * w : Nat) : Int) = (c : Int) * w := by simp
    unfold small
    rw [hw, Int.toNat_natCast, spanL_len hl]
    simp only [List.length_cons]
    omega
  · rw [if_neg hf] at he; cases he
theorem gather_len {n : Int} {d : List Int} {w : Nat} (hd : d.length ≤ 1000) : ∀ {r l : List Int}, gather n d w r = .ok l → l.length ≤ r.length * 1000
  | [], l, h => by simp only [gather, Except.ok.injEq] at h; subst h; simp
  | i :: r, l, h => by
    simp only [gather] at h
    split at h
    · cases h
    · split at h
      · cases h
      · cases h1 : gather n d w r with
        | error c => rw [h1] at h; cases h
        | ok l' =>
          rw [h1] at h
          simp only [Except.ok.injEq] at h
          subst h
          have := gather_len hd h1
          have hr : (nthRow d w i.toNat).length ≤ d.length := by
            unfold nthRow
            simp only [List.length_take, List.length_drop]
            omega
          simp only [List.length_append, List.length_cons]
          omega
theorem small_tri {X : Except Int (List Int × List Int)} (h : ∀ p, X = .ok p → small p.1 ∧ small p.2) : small (tri X).1 ∧ small (tri X).2.1 := by
  cases X with
  | ok p => exact h p rfl
  | error c => exact ⟨Nat.zero_le _, Nat.zero_le _⟩
theorem take_small {f : Int} {s d s' d' : List Int} (ha : arrOk s d = true) (hb : arrOk s' d' = true) {p : List Int × List Int} (h : xTake f s d s' d' = .ok p) : small p.1 ∧ small p.2 := by
  by_cases c : s.length = 0
  · obtain ⟨m, rfl, hm⟩ := one_cell ha c
    obtain ⟨n, t, ea, hc⟩ := ax_ok hb
    have e2 : ax s' d' = (n :: t, d') := Prod.ext ea (ax_d s' d')
    rw [xTake_eq c e2] at h
    have go : ∀ k cc, xSpan (n :: t) d' k cc = .ok p → small p.1 ∧ small p.2 := fun k cc hh => span_small hc ⟨n, t, rfl⟩ hh
    split at h
    · split at h <;> exact go _ _ h
    · split at h
      · exact go _ _ h
      · split at h
        · exact go _ _ h
        · split at h <;> exact go _ _ h
  · rw [show xTake f s d s' d' = .error 2 from if_neg c] at h; cases h
theorem catB_small {s d s' d' : List Int} (h1 : d.length ≤ 1000) (h2 : d'.length ≤ 1000) {p : List Int × List Int} (h : catB s d s' d' = .ok p) : small p.1 ∧ small p.2 := by
  unfold catB at h
  split at h
  · split at h
    · split at h
      · rename_i hf
        cases h
        have := ((fits_iff _).1 hf).1
        unfold small
        simp only [List.length_append]
        omega
      · cases h
    · cases h
  · cases h
theorem small_Dyad {f : Int} {s d s' d' : List Int} (h : pre_spec_Dyad f s d s' d') : small (s_spec_Dyad f s d s' d').1 ∧ small (s_spec_Dyad f s d s' d').2.1 := by
  obtain ⟨ss, sd, ss', sd'⟩ := h
  unfold s_spec_Dyad
  split
  · rename_i c
    obtain ⟨_, ha, hb⟩ := c
    obtain ⟨a1, a2, a3, a4, a5⟩ := arrOk_small ha
    obtain ⟨b1, b2, b3, b4, b5⟩ := arrOk_small hb
    refine small_tri fun p hp => ?_
    unfold xDyad at hp
    split at hp
    · unfold xReshape at hp
      split at hp
      · cases hp
      · split at hp
        · cases hp
        · split at hp
          · cases hp
          · unfold xRes2 at hp
            split at hp
            · rename_i hf
              split at hp
              · cases hp
              · cases hp
                have q := (fits_range hf).2
                rw [fits_prod hf] at q
                unfold small
                simp only [cyc_len]
                omega
            · cases hp
    · split at hp
      · exact take_small ha hb hp
      · split at hp
        · exact take_small ha hb hp
        · split at hp
          · unfold xCat catA at hp
            split at hp
            · exact catB_small a4 b4 hp
            · split at hp <;> exact catB_small a4 b4 hp
          · split at hp
            · cases s' with
              | nil => cases hp
              | cons n t =>
                rw [show xFrom s d (n :: t) d' = if fits (s ++ t) = true then bhd (s ++ t) [] (gather n d' (prodI t).toNat d) else .error 6 from rfl] at hp
                split at hp
                · rename_i hf
                  cases hg : gather n d' (prodI t).toNat d with
                  | error c => rw [hg] at hp; cases hp
                  | ok l =>
                    rw [hg] at hp
                    have hp' : p = (s ++ t, [] ++ l) := by
                      simp only [bhd, Except.ok.injEq] at hp; exact hp.symm
                    subst hp'
                    have q := gather_len b4 hg
                    have q2 := ((fits_iff _).1 hf).1
                    unfold small
                    simp only [List.nil_append]
                    omega
                · cases hp
            · split at hp
              · cases hp
                exact ⟨Nat.zero_le _, by unfold small; simp [xMatch]⟩
              · unfold xFind at hp
                split at hp
                · cases hp
                  exact ⟨ss', by unfold small at *; simpa using sd'⟩
                · cases hp
  · exact ⟨Nat.zero_le _, Nat.zero_le _⟩
-- the law
def pre_laws_FnExactDyad (op : Int) (s d s' d' : List Int) : Prop := (s.length ≤ big ∧ d.length ≤ big) ∧ s'.length ≤ big ∧ d'.length ≤ big
def s_laws_FnExactDyad (op : Int) (s d s' d' : List Int) : Bool := true
theorem p_laws_FnExactDyad (L0 : List Int → List Int → Int → Option Int) (h0 : ∀ s d n, pre_laws_szArray s d n → L0 s d n = some (s_laws_szArray s d n))
    (L1 : List Int → List Int → Option (List Int × List Int)) (h1 : ∀ s d, pre_laws_toArray s d → L1 s d = some (s_laws_toArray s d))
    (L2 : Int → List Int → List Int → List Int → List Int → Option (List Int × List Int × Int)) (h2 : ∀ op s d s' d', pre_spec_Dyad op s d s' d' → L2 op s d s' d' = some (s_spec_Dyad op s d s' d'))
    (L3 : Int → List Int → List Int → List Int → List Int → Option (List Int × List Int × Int)) (h3 : ∀ op s d s' d', pre_impl_Dyad op s d s' d' → L3 op s d s' d' = some (s_impl_Dyad op s d s' d'))
    (L4 : List Int → List Int → List Int → List Int → Option Bool) (h4 : ∀ s d s' d', pre_laws_eqArray s d s' d' → L4 s d s' d' = some (s_laws_eqArray s d s' d'))
    (L5 : List Int → List Int → Int → Option (Int × List Int × List Int)) (h5 : ∀ s d k, pre_laws_markArray s d k → L5 s d k = some (s_laws_markArray s d k))
    (L6 : List Int → List Int → Int → Option Int) (h6 : ∀ s d k, pre_laws_heldArray s d k → L6 s d k = some (s_laws_heldArray s d k))
    (op : Int) (s d s' d' : List Int) (h : pre_laws_FnExactDyad op s d s' d') : ∃ N, laws_FnExactDyad_f L0 L1 L2 L3 L4 L5 L6 N op s d s' d' = some (s_laws_FnExactDyad op s d s' d') := by
  refine ⟨0, ?_⟩
  unfold laws_FnExactDyad_f s_laws_FnExactDyad
  rw [h0 _ _ _ ⟨h.1.1, h.1.2, by omega, by omega⟩]
  simp only [Option.bind_some]
  by_cases c : s_laws_szArray s d 1048576 < 0
  · rw [if_pos c]
  rw [if_neg c]
  obtain ⟨q1, q2, q3, q4⟩ := sz_left (by omega) c
  rw [h0 _ _ _ ⟨h.2.1, h.2.2, q3, q4⟩]
  simp only [Option.bind_some]
  by_cases c' : s_laws_szArray s' d' (s_laws_szArray s d 1048576) < 0
  · rw [if_pos c']
  · rw [if_neg c']
    obtain ⟨r1, r2, r3, r4⟩ := sz_left ⟨q3, q4⟩ c'
    have q1' : s.length ≤ 1048576 := q1
    have q2' : d.length ≤ 1048576 := q2
    have hs : small s ∧ small d := ⟨q1, q2⟩
    have hs' : small s' ∧ small d' := ⟨r1, r2⟩
    have hss : pre_spec_Dyad op s d s' d' := ⟨q1, q2, r1, r2⟩
    have hg := small_Dyad hss
    have hm1 := h5 s d 1 ⟨q1, q2, by omega, by omega⟩
    have hk0 : 0 ≤ (s_laws_markArray s d 1).1 ∧ (s_laws_markArray s d 1).1 ≤ 4194304 := by
      unfold s_laws_markArray
      simp only
      omega
    have hm2 := h5 s' d' (s_laws_markArray s d 1).1 ⟨r1, r2, hk0.1, hk0.2⟩
    have hm3 := h5 _ _ 1 ⟨hg.1, hg.2, by omega, by omega⟩
    have hm : small (s_laws_markArray (s_spec_Dyad op s d s' d').1 (s_spec_Dyad op s d s' d').2.1 1).2.1 ∧ small (s_laws_markArray (s_spec_Dyad op s d s' d').1 (s_spec_Dyad op s d s' d').2.1 1).2.2 := by
      unfold s_laws_markArray small
      simp only [upFrom_len]
      exact hg
    have hh := h6 _ _ 1 ⟨hm.1, hm.2, by omega, by omega⟩
    simp only [h1 _ _ hs, h1 _ _ hs', Option.bind_some, s_laws_toArray, h2 _ _ _ _ _ hss, h3 _ _ _ _ _ hss, s_impl_Dyad, h4 _ _ _ _ hg, h4 _ _ _ _ hs, h4 _ _ _ _ hs', eqA_refl, hm1, hm2, hm3, hh, held_marks]
    have hk : ∀ (s d : List Int) (k : Int), 0 ≤ k → ¬ (s_laws_markArray s d k).1 < 0 := by intro s d k hk; unfold s_laws_markArray; simp only; omega
    simp [hk, hk0.1]
theorem pre_of_laws_FnExactDyad {op : Int} {s d s' d' : List Int} (ho : (Lit.int .i64 op).wf = true) (hs : s.length ≤ maxLen ∧ ∀ x ∈ s, (Lit.int .i64 x).wf = true) (hd : d.length ≤ maxLen ∧ ∀ x ∈ d, (Lit.int .i64 x).wf = true)
    (hs' : s'.length ≤ maxLen ∧ ∀ x ∈ s', (Lit.int .i64 x).wf = true) (hd' : d'.length ≤ maxLen ∧ ∀ x ∈ d', (Lit.int .i64 x).wf = true) : pre_laws_FnExactDyad op s d s' d' := ⟨⟨hs.1, hd.1⟩, hs'.1, hd'.1⟩
end Go.Vm
