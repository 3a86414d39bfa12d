/- Operators, folds over rows, rows one behind the other: what the shared functions answer. -/
import Derived.Test.YtejgcpankckdkaaPBas
import Derived.Test.YtejgcpankckdkaaFMid
import Derived.Test.YtejgcpankckdkaaVmLayer
set_option linter.unusedVariables false
set_option linter.unusedSimpArgs false
/- Two-place operators on cells: what the reference says of them, and the program's own. -/
namespace Go.Vm
theorem under_neg {β : Type} {p : Prop} {x : β} (h : ¬ p) : under p x = none := if_neg h
/-- a cell that may be -/
def cellIn (x : Int) : Prop := -3000000000 ≤ x ∧ x ≤ 3000000000
theorem cellIn_of {l : List Int} (h : l.all cellOk = true) : ∀ x ∈ l, cellIn x := by
  intro x hx
  have := List.all_eq_true.1 h x hx
  simpa [cellOk, cellIn] using this
theorem arrOk_cells {s d : List Int} (h : arrOk s d = true) : (∀ x ∈ d, cellIn x) ∧ fits s = true ∧ (d.length : Int) = s.foldl stepP 1 := by
  unfold arrOk at h
  simp only [Bool.and_eq_true, decide_eq_true_eq] at h
  exact ⟨cellIn_of h.2, h.1.1, h.1.2⟩

def pre_spec_l2Bool (b : Bool) : Prop := True
def s_spec_l2Bool (b : Bool) : Int := if b = true then 1 else 0
theorem p_spec_l2Bool (b : Bool) (h : pre_spec_l2Bool b) : ∃ N, spec_l2Bool_f N b = some (s_spec_l2Bool b) := by
  refine ⟨0, ?_⟩
  unfold spec_l2Bool_f s_spec_l2Bool
  cases b <;> rfl
def pre_impl_truth (b : Bool) : Prop := True
def s_impl_truth (b : Bool) : Int := s_spec_l2Bool b
theorem p_impl_truth (b : Bool) (h : pre_impl_truth b) : ∃ N, impl_truth_f N b = some (s_impl_truth b) := by
  refine ⟨0, ?_⟩
  unfold impl_truth_f s_impl_truth s_spec_l2Bool
  cases b <;> rfl

def pre_spec_l2OpOk (op : Int) : Prop := True
def s_spec_l2OpOk (op : Int) : Bool := decide (1 ≤ op ∧ op ≤ 10)
theorem p_spec_l2OpOk (op : Int) (h : pre_spec_l2OpOk op) : ∃ N, spec_l2OpOk_f N op = some (s_spec_l2OpOk op) := by
  refine ⟨0, ?_⟩
  unfold spec_l2OpOk_f s_spec_l2OpOk
  by_cases c : 1 ≤ op
  · rw [if_pos c]; simp [c]
  · rw [if_neg c]; simp [c]

/-- a cell within bounds, and the code -/
def inR (x : Int) : Int × Int := if x < -3000000000 then (0, 5) else if 3000000000 < x then (0, 5) else (x, 0)
def pre_spec_l2In (x : Int) : Prop := True
def s_spec_l2In (x : Int) : Int × Int := inR x
theorem p_spec_l2In (x : Int) (h : pre_spec_l2In x) : ∃ N, spec_l2In_f N x = some (s_spec_l2In x) := by
  refine ⟨0, ?_⟩
  unfold spec_l2In_f s_spec_l2In inR
  split
  · rfl
  · split <;> rfl
/-- a value, or the code thrown -/
def resOf (r : Int × Int) : Res Int := if r.2 = 0 then .ok r.1 else .pan (thrown r.2)
def pre_impl_inRange (x : Int) : Prop := True
def s_impl_inRange (x : Int) : Res Int := resOf (inR x)
theorem p_impl_inRange (x : Int) (h : pre_impl_inRange x) : ∃ N, impl_inRange_f N x = some (s_impl_inRange x) := by
  refine ⟨0, ?_⟩
  unfold impl_inRange_f s_impl_inRange inR resOf
  split
  · rfl
  · split <;> rfl

-- the quotient that is rounded down
theorem tdiv_abs (x y : Int) (hx : cellIn x) : -3000000000 ≤ Int.tdiv x y ∧ Int.tdiv x y ≤ 3000000000 := by
  obtain ⟨h1, h2⟩ := hx
  have : (Int.tdiv x y).natAbs ≤ x.natAbs := by
    rw [Int.natAbs_tdiv]; exact Nat.div_le_self _ _
  omega
theorem tmod_abs (x y : Int) (hx : cellIn x) : -3000000000 ≤ Int.tmod x y ∧ Int.tmod x y ≤ 3000000000 := by
  obtain ⟨h1, h2⟩ := hx
  have : (Int.tmod x y).natAbs ≤ x.natAbs := by
    rw [Int.natAbs_tmod]; exact Nat.mod_le _ _
  omega
/-- the quotient, rounded down -/
def flo (x y : Int) : Int := if Int.tmod x y = 0 then Int.tdiv x y else if (decide (Int.tmod x y < 0) == decide (y < 0)) = false then Int.tdiv x y - 1 else Int.tdiv x y
/-- the rest -/
def res (x y : Int) : Int := if Int.tmod x y = 0 then 0 else if (decide (Int.tmod x y < 0) == decide (y < 0)) = false then Int.tmod x y + y else Int.tmod x y
theorem flo_res (x y : Int) : y * flo x y = x - res x y := by
  have e := Int.mul_tdiv_add_tmod x y
  unfold flo res
  split
  · omega
  · split
    · rw [Int.mul_sub, Int.mul_one]; omega
    · omega
theorem res_abs (x y : Int) (hx : cellIn x) (hy : cellIn y) : -3000000000 ≤ res x y ∧ res x y ≤ 3000000000 := by
  have h := tmod_abs x y hx
  obtain ⟨y1, y2⟩ := hy
  unfold res
  split
  · omega
  · rename_i c
    split
    · rename_i d
      by_cases p : Int.tmod x y < 0 <;> by_cases q : y < 0
      · simp [p, q] at d
      · omega
      · omega
      · simp [p, q] at d
    · omega
theorem flo_abs (x y : Int) (hx : cellIn x) : -3000000001 ≤ flo x y ∧ flo x y ≤ 3000000000 := by
  have h := tdiv_abs x y hx
  unfold flo
  split
  · omega
  · split <;> omega
theorem tmod_neg (x y : Int) (h : ¬ Int.tmod x y = 0) : Int.tmod x y < 0 ↔ x < 0 := by
  have s := Int.sign_tmod x y
  have hd : ¬ y ∣ x := fun q => h (Int.dvd_iff_tmod_eq_zero.1 q)
  rw [if_neg hd] at s
  rw [← Int.sign_eq_neg_one_iff_neg, ← Int.sign_eq_neg_one_iff_neg, s]
def pre_spec_l2Floor (x y : Int) : Prop := cellIn x ∧ cellIn y ∧ ¬ y = 0
def s_spec_l2Floor (x y : Int) : Int := flo x y
theorem p_spec_l2Floor (x y : Int) (h : pre_spec_l2Floor x y) : ∃ N, spec_l2Floor_f N x y = some (s_spec_l2Floor x y) := by
  obtain ⟨hx, hy, h0⟩ := h
  refine ⟨0, ?_⟩
  have ht := tdiv_abs x y hx
  have hm := tmod_abs x y hx
  have e := Int.mul_tdiv_add_tmod x y
  have hx' := hx
  obtain ⟨x1, x2⟩ := hx'
  unfold spec_l2Floor_f s_spec_l2Floor flo
  rw [if_neg h0, w64_in (n := Int.tdiv x y) (by omega), Int.mul_comm, w64_in (n := y * Int.tdiv x y) (by omega)]
  by_cases c : Int.tmod x y = 0
  · rw [if_pos c, if_pos (by omega)]
  · rw [if_neg c, if_neg (by omega), w64_in (n := Int.tdiv x y - 1) (by omega)]
    have := tmod_neg x y c
    simp only [this]
    split <;> rfl
def pre_impl_floorDiv (x y : Int) : Prop := cellIn x ∧ cellIn y
def s_impl_floorDiv (x y : Int) : Res Int := if y = 0 then .pan (thrown 1) else .ok (flo x y)
theorem p_impl_floorDiv (x y : Int) (h : pre_impl_floorDiv x y) : ∃ N, impl_floorDiv_f N x y = some (s_impl_floorDiv x y) := by
  obtain ⟨hx, hy⟩ := h
  refine ⟨0, ?_⟩
  have ht := tdiv_abs x y hx
  unfold impl_floorDiv_f s_impl_floorDiv flo
  by_cases h0 : y = 0
  · rw [if_pos h0, if_pos h0]; rfl
  · rw [if_neg h0, if_neg h0, if_neg h0, if_neg h0, w64_in (n := Int.tdiv x y) (by omega), w64_in (n := Int.tdiv x y - 1) (by omega)]
    split
    · rfl
    · split <;> rfl

/-- what is done to two cells, and its code -/
def twoOf (op x y : Int) : Int × Int :=
  if op = 1 then inR (x + y)
  else if op = 2 then inR (x - y)
  else if op = 3 then inR (x * y)
  else if op = 4 then (if y = 0 then (0, 1) else inR (flo x y))
  else if op = 5 then (if y = 0 then x else res x y, 0)
  else if op = 8 then (s_spec_l2Bool (decide (x < y)), 0)
  else if op = 9 then (s_spec_l2Bool (decide (x = y)), 0)
  else if op = 10 then (s_spec_l2Bool (decide (y < x)), 0)
  else if (decide (op = 6) == decide (x < y)) = true then (x, 0) else (y, 0)
theorem mul_abs {x y : Int} (hx : cellIn x) (hy : cellIn y) : -9000000000000000000 ≤ x * y ∧ x * y ≤ 9000000000000000000 := by
  obtain ⟨x1, x2⟩ := hx
  obtain ⟨y1, y2⟩ := hy
  have h : (x * y).natAbs ≤ 3000000000 * 3000000000 := by
    rw [Int.natAbs_mul]; exact Nat.mul_le_mul (by omega) (by omega)
  omega
theorem inR_in {x : Int} (h : cellIn x) : inR x = (x, 0) := by
  obtain ⟨h1, h2⟩ := h
  unfold inR; rw [if_neg (by omega), if_neg (by omega)]
def pre_spec_l2Two (op x y : Int) : Prop := cellIn x ∧ cellIn y
def s_spec_l2Two (op x y : Int) : Int × Int := twoOf op x y
theorem p_spec_l2Two (L1 : Int → Option (Int × Int)) (h1 : ∀ x, pre_spec_l2In x → L1 x = some (s_spec_l2In x)) (L2 : Int → Int → Option Int) (h2 : ∀ x y, pre_spec_l2Floor x y → L2 x y = some (s_spec_l2Floor x y))
    (L3 : Bool → Option Int) (h3 : ∀ b, pre_spec_l2Bool b → L3 b = some (s_spec_l2Bool b)) (op x y : Int) (h : pre_spec_l2Two op x y) : ∃ N, spec_l2Two_f L1 L2 L3 N op x y = some (s_spec_l2Two op x y) := by
  obtain ⟨hx, hy⟩ := h
  have hm := mul_abs hx hy
  have hx' := hx
  have hy' := hy
  obtain ⟨x1, x2⟩ := hx'
  obtain ⟨y1, y2⟩ := hy'
  refine ⟨0, ?_⟩
  unfold spec_l2Two_f s_spec_l2Two twoOf
  rw [w64_in (n := x + y) (by omega), w64_in (n := x - y) (by omega), w64_in (n := x * y) (by omega)]
  simp only [h1 _ trivial, h3 _ trivial, Option.bind_some, s_spec_l2In]
  by_cases c1 : op = 1
  · rw [if_pos c1, if_pos c1]
  rw [if_neg c1, if_neg c1]
  by_cases c2 : op = 2
  · rw [if_pos c2, if_pos c2]
  rw [if_neg c2, if_neg c2]
  by_cases c3 : op = 3
  · rw [if_pos c3, if_pos c3]
  rw [if_neg c3, if_neg c3]
  by_cases h0 : y = 0
  · simp only [h0, if_true]
    split
    · rfl
    · split
      · rfl
      · split
        · rfl
        · split
          · rfl
          · split
            · rfl
            · split <;> rfl
  · have hq := flo_res x y
    have hr := res_abs x y hx hy
    simp only [h0, if_false]
    rw [h2 _ _ ⟨hx, hy, h0⟩]
    simp only [Option.bind_some, s_spec_l2Floor, hq]
    rw [w64_in (n := x - res x y) (by omega), show x - (x - res x y) = res x y by omega, w64_in (n := res x y) (by omega), inR_in hr]
    split
    · rfl
    · split
      · rfl
      · split
        · rfl
        · split
          · rfl
          · split
            · rfl
            · split <;> rfl

-- the program's own
def pre_impl_cellOps_1 (x y : Int) : Prop := cellIn x ∧ cellIn y
def s_impl_cellOps_1 (x y : Int) : Res Int := resOf (twoOf 1 x y)
theorem p_impl_cellOps_1 (L : Int → Option (Res Int)) (hL : ∀ x, pre_impl_inRange x → L x = some (s_impl_inRange x)) (x y : Int) (h : pre_impl_cellOps_1 x y) : ∃ N, impl_cellOps_1_f L N x y = some (s_impl_cellOps_1 x y) := by
  have hm := mul_abs h.1 h.2
  obtain ⟨⟨x1, x2⟩, y1, y2⟩ := h
  refine ⟨0, ?_⟩
  unfold impl_cellOps_1_f s_impl_cellOps_1
  rw [hL _ trivial, w64_in (by omega)]
  have e : twoOf 1 x y = inR (x + y) := by simp [twoOf]
  rw [e]
  simp only [Option.bind_some, s_impl_inRange]
  cases resOf (inR (x + y)) <;> rfl
def pre_impl_cellOps_2 (x y : Int) : Prop := cellIn x ∧ cellIn y
def s_impl_cellOps_2 (x y : Int) : Res Int := resOf (twoOf 2 x y)
theorem p_impl_cellOps_2 (L : Int → Option (Res Int)) (hL : ∀ x, pre_impl_inRange x → L x = some (s_impl_inRange x)) (x y : Int) (h : pre_impl_cellOps_2 x y) : ∃ N, impl_cellOps_2_f L N x y = some (s_impl_cellOps_2 x y) := by
  have hm := mul_abs h.1 h.2
  obtain ⟨⟨x1, x2⟩, y1, y2⟩ := h
  refine ⟨0, ?_⟩
  unfold impl_cellOps_2_f s_impl_cellOps_2
  rw [hL _ trivial, w64_in (by omega)]
  have e : twoOf 2 x y = inR (x - y) := by simp [twoOf]
  rw [e]
  simp only [Option.bind_some, s_impl_inRange]
  cases resOf (inR (x - y)) <;> rfl
def pre_impl_cellOps_3 (x y : Int) : Prop := cellIn x ∧ cellIn y
def s_impl_cellOps_3 (x y : Int) : Res Int := resOf (twoOf 3 x y)
theorem p_impl_cellOps_3 (L : Int → Option (Res Int)) (hL : ∀ x, pre_impl_inRange x → L x = some (s_impl_inRange x)) (x y : Int) (h : pre_impl_cellOps_3 x y) : ∃ N, impl_cellOps_3_f L N x y = some (s_impl_cellOps_3 x y) := by
  have hm := mul_abs h.1 h.2
  obtain ⟨⟨x1, x2⟩, y1, y2⟩ := h
  refine ⟨0, ?_⟩
  unfold impl_cellOps_3_f s_impl_cellOps_3
  rw [hL _ trivial, w64_in (by omega)]
  have e : twoOf 3 x y = inR (x * y) := by simp [twoOf]
  rw [e]
  simp only [Option.bind_some, s_impl_inRange]
  cases resOf (inR (x * y)) <;> rfl
def pre_impl_cellOps_4 (x y : Int) : Prop := cellIn x ∧ cellIn y
def s_impl_cellOps_4 (x y : Int) : Res Int := resOf (twoOf 4 x y)
theorem p_impl_cellOps_4 (L1 : Int → Int → Option (Res Int)) (h1 : ∀ x y, pre_impl_floorDiv x y → L1 x y = some (s_impl_floorDiv x y)) (L2 : Int → Option (Res Int)) (h2 : ∀ x, pre_impl_inRange x → L2 x = some (s_impl_inRange x)) (x y : Int) (h : pre_impl_cellOps_4 x y) : ∃ N, impl_cellOps_4_f L1 L2 N x y = some (s_impl_cellOps_4 x y) := by
  refine ⟨0, ?_⟩
  unfold impl_cellOps_4_f s_impl_cellOps_4
  rw [h1 _ _ h]
  show (some _).bind _ = some (resOf (if y = 0 then (0, 1) else inR (flo x y)))
  simp only [Option.bind_some, s_impl_floorDiv]
  by_cases h0 : y = 0
  · rw [if_pos h0, if_pos h0]; rfl
  · rw [if_neg h0, if_neg h0]
    simp only [Res.on]
    rw [h2 _ trivial]
    simp only [Option.bind_some, s_impl_inRange]
    cases resOf (inR (flo x y)) <;> rfl
def pre_impl_residue (x y : Int) : Prop := cellIn x ∧ cellIn y
def s_impl_residue (x y : Int) : Int := (twoOf 5 x y).1
theorem p_impl_residue (x y : Int) (h : pre_impl_residue x y) : ∃ N, impl_residue_f N x y = some (s_impl_residue x y) := by
  obtain ⟨hx, hy⟩ := h
  have hr := res_abs x y hx hy
  refine ⟨0, ?_⟩
  unfold impl_residue_f s_impl_residue
  show _ = some (if y = 0 then x else res x y)
  by_cases h0 : y = 0
  · rw [if_pos h0, if_pos h0]
  · rw [if_neg h0, if_neg h0, if_neg h0]
    unfold res at hr ⊢
    by_cases c : Int.tmod x y = 0
    · rw [if_pos c, if_pos c, c]
    · rw [if_neg c] at hr ⊢
      rw [if_neg c]
      by_cases d : (decide (Int.tmod x y < 0) == decide (y < 0)) = false
      · rw [if_pos d] at hr ⊢
        rw [if_pos d, w64_in (by omega)]
      · rw [if_neg d, if_neg d]
def pre_impl_cellOps_5 (x y : Int) : Prop := cellIn x ∧ cellIn y
def s_impl_cellOps_5 (x y : Int) : Int := (twoOf 6 x y).1
theorem p_impl_cellOps_5 (x y : Int) (h : pre_impl_cellOps_5 x y) : ∃ N, impl_cellOps_5_f N x y = some (s_impl_cellOps_5 x y) := by
  refine ⟨0, ?_⟩
  unfold impl_cellOps_5_f s_impl_cellOps_5
  show _ = some (if (decide ((6 : Int) = 6) == decide (x < y)) = true then (x, (0 : Int)) else (y, 0)).1
  by_cases c : x < y <;> simp [c] <;> omega
def pre_impl_cellOps_6 (x y : Int) : Prop := cellIn x ∧ cellIn y
def s_impl_cellOps_6 (x y : Int) : Int := (twoOf 7 x y).1
theorem p_impl_cellOps_6 (x y : Int) (h : pre_impl_cellOps_6 x y) : ∃ N, impl_cellOps_6_f N x y = some (s_impl_cellOps_6 x y) := by
  refine ⟨0, ?_⟩
  unfold impl_cellOps_6_f s_impl_cellOps_6
  show _ = some (if (decide ((7 : Int) = 6) == decide (x < y)) = true then (x, (0 : Int)) else (y, 0)).1
  by_cases c : x < y <;> simp [c] <;> omega
def pre_impl_cellOps_7 (x y : Int) : Prop := cellIn x ∧ cellIn y
def s_impl_cellOps_7 (x y : Int) : Int := (twoOf 8 x y).1
theorem p_impl_cellOps_7 (L : Bool → Option Int) (hL : ∀ b, pre_impl_truth b → L b = some (s_impl_truth b)) (x y : Int) (h : pre_impl_cellOps_7 x y) : ∃ N, impl_cellOps_7_f L N x y = some (s_impl_cellOps_7 x y) := by
  refine ⟨0, ?_⟩
  unfold impl_cellOps_7_f s_impl_cellOps_7
  rw [hL _ trivial]; rfl
def pre_impl_cellOps_8 (x y : Int) : Prop := cellIn x ∧ cellIn y
def s_impl_cellOps_8 (x y : Int) : Int := (twoOf 9 x y).1
theorem p_impl_cellOps_8 (L : Bool → Option Int) (hL : ∀ b, pre_impl_truth b → L b = some (s_impl_truth b)) (x y : Int) (h : pre_impl_cellOps_8 x y) : ∃ N, impl_cellOps_8_f L N x y = some (s_impl_cellOps_8 x y) := by
  refine ⟨0, ?_⟩
  unfold impl_cellOps_8_f s_impl_cellOps_8
  rw [hL _ trivial]; rfl
def pre_impl_cellOps_9 (x y : Int) : Prop := cellIn x ∧ cellIn y
def s_impl_cellOps_9 (x y : Int) : Int := (twoOf 10 x y).1
theorem p_impl_cellOps_9 (L : Bool → Option Int) (hL : ∀ b, pre_impl_truth b → L b = some (s_impl_truth b)) (x y : Int) (h : pre_impl_cellOps_9 x y) : ∃ N, impl_cellOps_9_f L N x y = some (s_impl_cellOps_9 x y) := by
  refine ⟨0, ?_⟩
  unfold impl_cellOps_9_f s_impl_cellOps_9
  rw [hL _ trivial]; rfl
def opNo (op : Int) : Nat := if op = 1 then 150 else if op = 2 then 152 else if op = 3 then 153 else if op = 4 then 154 else if op = 5 then 156 else if op = 6 then 157 else if op = 7 then 158 else if op = 8 then 159 else if op = 9 then 160 else if op = 10 then 161 else 0
def dyn_pre (f : Nat) (x y : Int) : Prop := (f = 150 ∨ f = 152 ∨ f = 153 ∨ f = 154 ∨ f = 156 ∨ f = 157 ∨ f = 158 ∨ f = 159 ∨ f = 160 ∨ f = 161) ∧ cellIn x ∧ cellIn y
def dyn_s (f : Nat) (x y : Int) : Res Int := if f = 150 then s_impl_cellOps_1 x y else if f = 152 then s_impl_cellOps_2 x y else if f = 153 then s_impl_cellOps_3 x y else if f = 154 then s_impl_cellOps_4 x y else if f = 156 then .ok (s_impl_residue x y) else if f = 157 then .ok (s_impl_cellOps_5 x y) else if f = 158 then .ok (s_impl_cellOps_6 x y) else if f = 159 then .ok (s_impl_cellOps_7 x y) else if f = 160 then .ok (s_impl_cellOps_8 x y) else if f = 161 then .ok (s_impl_cellOps_9 x y) else .pan (thrown 0)
theorem dyn_op {op : Int} (ho : 1 ≤ op ∧ op ≤ 10) {x y : Int} (hx : cellIn x) (hy : cellIn y) : dyn_pre (opNo op) x y ∧ dyn_s (opNo op) x y = resOf (twoOf op x y) := by
  have ho' : op = 1 ∨ op = 2 ∨ op = 3 ∨ op = 4 ∨ op = 5 ∨ op = 6 ∨ op = 7 ∨ op = 8 ∨ op = 9 ∨ op = 10 := by omega
  rcases ho' with rfl | rfl | rfl | rfl | rfl | rfl | rfl | rfl | rfl | rfl
  · exact ⟨⟨by simp [opNo], hx, hy⟩, rfl⟩
  · exact ⟨⟨by simp [opNo], hx, hy⟩, rfl⟩
  · exact ⟨⟨by simp [opNo], hx, hy⟩, rfl⟩
  · exact ⟨⟨by simp [opNo], hx, hy⟩, rfl⟩
  · exact ⟨⟨by simp [opNo], hx, hy⟩, rfl⟩
  · refine ⟨⟨by simp [opNo], hx, hy⟩, ?_⟩
    show Res.ok (twoOf 6 x y).1 = _
    have : (twoOf 6 x y).2 = 0 := by simp only [twoOf, show ¬ (6 : Int) = 1 by omega, show ¬ (6 : Int) = 2 by omega, show ¬ (6 : Int) = 3 by omega, show ¬ (6 : Int) = 4 by omega, show ¬ (6 : Int) = 5 by omega, show ¬ (6 : Int) = 8 by omega, show ¬ (6 : Int) = 9 by omega, show ¬ (6 : Int) = 10 by omega, if_false]; split <;> rfl
    unfold resOf; rw [if_pos this]
  · refine ⟨⟨by simp [opNo], hx, hy⟩, ?_⟩
    show Res.ok (twoOf 7 x y).1 = _
    have : (twoOf 7 x y).2 = 0 := by simp only [twoOf, show ¬ (7 : Int) = 1 by omega, show ¬ (7 : Int) = 2 by omega, show ¬ (7 : Int) = 3 by omega, show ¬ (7 : Int) = 4 by omega, show ¬ (7 : Int) = 5 by omega, show ¬ (7 : Int) = 8 by omega, show ¬ (7 : Int) = 9 by omega, show ¬ (7 : Int) = 10 by omega, if_false]; split <;> rfl
    unfold resOf; rw [if_pos this]
  · exact ⟨⟨by simp [opNo], hx, hy⟩, rfl⟩
  · exact ⟨⟨by simp [opNo], hx, hy⟩, rfl⟩
  · exact ⟨⟨by simp [opNo], hx, hy⟩, rfl⟩
def pre_impl_cellOps : Prop := True
def s_impl_cellOps : Unit := ()
theorem p_impl_cellOps (L1 : Int → Int → Option (Res Int)) (h1 : ∀ x y, pre_impl_cellOps_1 x y → L1 x y = some (s_impl_cellOps_1 x y)) (L2 : Int → Int → Option (Res Int)) (h2 : ∀ x y, pre_impl_cellOps_2 x y → L2 x y = some (s_impl_cellOps_2 x y)) (L3 : Int → Int → Option (Res Int)) (h3 : ∀ x y, pre_impl_cellOps_3 x y → L3 x y = some (s_impl_cellOps_3 x y)) (L4 : Int → Int → Option (Res Int)) (h4 : ∀ x y, pre_impl_cellOps_4 x y → L4 x y = some (s_impl_cellOps_4 x y)) (L5 : Int → Int → Option Int) (h5 : ∀ x y, pre_impl_residue x y → L5 x y = some (s_impl_residue x y)) (L6 : Int → Int → Option Int) (h6 : ∀ x y, pre_impl_cellOps_5 x y → L6 x y = some (s_impl_cellOps_5 x y)) (L7 : Int → Int → Option Int) (h7 : ∀ x y, pre_impl_cellOps_6 x y → L7 x y = some (s_impl_cellOps_6 x y)) (L8 : Int → Int → Option Int) (h8 : ∀ x y, pre_impl_cellOps_7 x y → L8 x y = some (s_impl_cellOps_7 x y)) (L9 : Int → Int → Option Int) (h9 : ∀ x y, pre_impl_cellOps_8 x y → L9 x y = some (s_impl_cellOps_8 x y)) (L10 : Int → Int → Option Int) (h10 : ∀ x y, pre_impl_cellOps_9 x y → L10 x y = some (s_impl_cellOps_9 x y)) (h : pre_impl_cellOps) : ∃ N, impl_cellOps_f L1 L2 L3 L4 L5 L6 L7 L8 L9 L10 N = some s_impl_cellOps := ⟨0, rfl⟩
def pre_impl_opOf (op : Int) : Prop := True
def s_impl_opOf (op : Int) : Alt Unit Nat := if 1 ≤ op ∧ op ≤ 10 then .b (opNo op) else .a ()
theorem p_impl_opOf (L : Option Unit) (hL : pre_impl_cellOps → L = some s_impl_cellOps) (op : Int) (h : pre_impl_opOf op) : ∃ N, impl_opOf_f L N op = some (s_impl_opOf op) := by
  refine ⟨0, ?_⟩
  unfold impl_opOf_f s_impl_opOf
  rw [hL trivial]
  simp only [Option.bind_some]
  by_cases c1 : op < 1
  · rw [if_pos c1, if_neg (by omega)]
  · by_cases c2 : 10 < op
    · rw [if_neg c1, if_pos c2, if_neg (by omega)]
    · rw [if_neg c1, if_neg c2, if_pos (show 0 ≤ op ∧ op < 11 by omega), if_pos (show 1 ≤ op ∧ op ≤ 10 by omega)]
      have ho' : op = 1 ∨ op = 2 ∨ op = 3 ∨ op = 4 ∨ op = 5 ∨ op = 6 ∨ op = 7 ∨ op = 8 ∨ op = 9 ∨ op = 10 := by omega
      rcases ho' with rfl | rfl | rfl | rfl | rfl | rfl | rfl | rfl | rfl | rfl <;> rfl
theorem opOf_spec (op : Int) : (s_spec_l2OpOk op = true ∧ s_impl_opOf op = .b (opNo op) ∧ 1 ≤ op ∧ op ≤ 10) ∨ (s_spec_l2OpOk op = false ∧ s_impl_opOf op = .a ()) := by
  unfold s_spec_l2OpOk s_impl_opOf
  by_cases c : 1 ≤ op ∧ op ≤ 10
  · left; simp [c]
  · right; rw [if_neg c]; simp only [decide_eq_false_iff_not]; exact ⟨c, trivial⟩

-- arrays that may be
theorem arrOk_small {s d : List Int} (h : arrOk s d = true) : small s ∧ small d ∧ s.length ≤ 3 ∧ d.length ≤ 1000 ∧ (d.length : Int) = s.foldl stepP 1 := by
  obtain ⟨h1, h2, h3⟩ := arrOk_cells h
  have h4 := fits_range h2
  have h5 : s.length ≤ 3 := by
    unfold fits at h2
    simp only [Bool.and_eq_true, decide_eq_true_eq] at h2
    exact h2.1.1
  unfold small
  omega
/-- an array, or the code of a failure -/
def tri : Except Int (List Int × List Int) → List Int × List Int × Int
  | .ok p => (p.1, p.2, 0)
  | .error c => ([], [], c)
def pans : Except Int (List Int × List Int) → Res (List Int × List Int)
  | .ok p => .ok p
  | .error c => .pan (thrown c)
/-- two cells, as the reference tells it -/
def two (op x y : Int) : Except Int Int := if (twoOf op x y).2 = 0 then .ok (twoOf op x y).1 else .error (twoOf op x y).2
/-- two rows, cell by cell -/
def twos (op : Int) : List Int → List Int → Except Int (List Int)
  | x :: a, y :: b => match two op x y with
    | .ok v => match twos op a b with
      | .ok l => .ok (v :: l)
      | .error c => .error c
    | .error c => .error c
  | _, _ => .ok []
theorem twos_len {op : Int} : ∀ {a b l : List Int}, twos op a b = .ok l → a.length = b.length → l.length = a.length
  | [], b, l, h, hl => by simp only [twos, Except.ok.injEq] at h; subst h; rfl
  | x :: a, [], l, h, hl => by simp at hl
  | x :: a, y :: b, l, h, hl => by
    simp only [twos] at h
    cases h1 : two op x y with
    | error c => rw [h1] at h; cases h
    | ok v =>
      rw [h1] at h
      cases h2 : twos op a b with
      | error c => rw [h2] at h; cases h
      | ok l' =>
        rw [h2] at h
        simp only [Except.ok.injEq] at h
        subst h
        simp only [List.length_cons, twos_len h2 (by simpa using hl)]
/-- cells that were made, behind others -/
def behindT (s acc : List Int) : Except Int (List Int) → Except Int (List Int × List Int)
  | .ok l => .ok (s, acc ++ l)
  | .error c => .error c
theorem behindT_cons {s acc : List Int} {op x y v : Int} {a b : List Int} (h : two op x y = .ok v) : behindT s acc (twos op (x :: a) (y :: b)) = behindT s (acc ++ [v]) (twos op a b) := by
  simp only [twos, h]
  cases twos op a b <;> simp [behindT]
theorem behindT_err {s acc : List Int} {op x y c : Int} {a b : List Int} (h : two op x y = .error c) : behindT s acc (twos op (x :: a) (y :: b)) = .error c := by
  simp only [twos, h, behindT]
theorem two_ok {op x y : Int} (h : (twoOf op x y).2 = 0) : two op x y = .ok (twoOf op x y).1 := if_pos h
theorem two_err {op x y : Int} (h : ¬ (twoOf op x y).2 = 0) : two op x y = .error (twoOf op x y).2 := if_neg h
open Classical in
/-- the operator that a function is -/
noncomputable def opBy (f : Nat) : Int := if h : ∃ op, (1 ≤ op ∧ op ≤ 10) ∧ f = opNo op then Classical.choose h else 0
theorem opNo_inj {a b : Int} (ha : 1 ≤ a ∧ a ≤ 10) (hb : 1 ≤ b ∧ b ≤ 10) (h : opNo a = opNo b) : a = b := by
  have ha' : a = 1 ∨ a = 2 ∨ a = 3 ∨ a = 4 ∨ a = 5 ∨ a = 6 ∨ a = 7 ∨ a = 8 ∨ a = 9 ∨ a = 10 := by omega
  have hb' : b = 1 ∨ b = 2 ∨ b = 3 ∨ b = 4 ∨ b = 5 ∨ b = 6 ∨ b = 7 ∨ b = 8 ∨ b = 9 ∨ b = 10 := by omega
  rcases ha' with rfl | rfl | rfl | rfl | rfl | rfl | rfl | rfl | rfl | rfl <;> rcases hb' with rfl | rfl | rfl | rfl | rfl | rfl | rfl | rfl | rfl | rfl <;> first | rfl | (exfalso; revert h; decide)
theorem opBy_no {op : Int} (ho : 1 ≤ op ∧ op ≤ 10) : opBy (opNo op) = op := by
  have h : ∃ o, (1 ≤ o ∧ o ≤ 10) ∧ opNo op = opNo o := ⟨op, ho, rfl⟩
  unfold opBy
  rw [dif_pos h]
  exact (opNo_inj ho (Classical.choose_spec h).1 (Classical.choose_spec h).2).symm
theorem twos_small {op : Int} {s a b : List Int} (hs : small s) (ha : small a) (hl : a.length = b.length) : small (tri (behindT s [] (twos op a b))).1 ∧ small (tri (behindT s [] (twos op a b))).2.1 := by
  cases he : twos op a b with
  | error c => exact ⟨Nat.zero_le _, Nat.zero_le _⟩
  | ok l =>
    simp only [behindT, tri, List.nil_append]
    exact ⟨hs, by unfold small; rw [twos_len he hl]; exact ha⟩
theorem sz_left {s d : List Int} {n : Int} (hn : 0 ≤ n ∧ n ≤ 1048576) (c : ¬ s_laws_szArray s d n < 0) : small s ∧ small d ∧ 0 ≤ s_laws_szArray s d n ∧ s_laws_szArray s d n ≤ 1048576 := by
  unfold s_laws_szArray at c ⊢
  unfold small
  split at c
  · omega
  · split at c
    · omega
    · rename_i c1 c2
      rw [if_neg c1, if_neg c2]
      omega
end Go.Vm
/- The reference, cell by cell. -/
namespace Go.Vm

-- one row made of one cell
theorem l_wide (L1 : List Int → Option (List Int)) (L2 : List Int → Option Int) (s : List Int) (n : Nat) (hn : n ≤ 1000) (hp : L2 s = some (n : Int)) (x : Int) (s0 d0 : List Int) (hx : idx d0 0 = some x) (s' : List Int) : ∀ (m j e : Nat), j + m = n →
    spec_l2Wide_l0 L1 L2 (m + 1 + e) s j s0 d0 s' (List.replicate j x) = some (s', List.replicate n x)
  | 0, j, e, h => by
    rw [show 0 + 1 + e = e + 1 by omega]
    simp only [spec_l2Wide_l0]
    rw [hp]
    simp only [Option.bind_some]
    rw [if_neg (by omega), show j = n by omega]
  | m + 1, j, e, h => by
    rw [show m + 1 + 1 + e = (m + 1 + e) + 1 by omega]
    simp only [spec_l2Wide_l0]
    rw [hp, hx]
    simp only [Option.bind_some]
    have e1 : List.replicate j x ++ [x] = List.replicate (j + 1) x := by rw [List.replicate_succ']
    rw [if_pos (by omega), e1, if_pos (room_small (by unfold small; simp; omega)), succ_w (n := n) (by omega) (by rw [big_eq]; omega)]
    exact l_wide L1 L2 s n hn hp x s0 d0 hx s' m (j + 1) e (by omega)
def pre_spec_l2Wide (s d a : List Int) : Prop := small a ∧ fits a = true ∧ d.length = 1
def s_spec_l2Wide (s d a : List Int) : List Int × List Int := (a, List.replicate (a.foldl stepP 1).toNat (d.headD 0))
theorem p_spec_l2Wide (L1 : List Int → Option (List Int)) (h1 : ∀ l, pre_spec_l2Copy l → L1 l = some (s_spec_l2Copy l)) (L2 : List Int → Option Int) (h2 : ∀ l, pre_spec_l1Product l → L2 l = some (s_spec_l1Product l))
    (s d a : List Int) (h : pre_spec_l2Wide s d a) : ∃ N, spec_l2Wide_f L1 L2 N s d a = some (s_spec_l2Wide s d a) := by
  obtain ⟨h3, h4, h5⟩ := h
  have hr := fits_range h4
  obtain ⟨x, rfl⟩ : ∃ x, d = [x] := by
    cases d with
    | nil => simp at h5
    | cons x d => simp at h5; subst h5; exact ⟨x, rfl⟩
  refine ⟨(a.foldl stepP 1).toNat + 1, ?_⟩
  unfold spec_l2Wide_f s_spec_l2Wide
  rw [h1 _ h3]
  simp only [Option.bind_some, s_spec_l2Copy]
  exact l_wide L1 L2 a (a.foldl stepP 1).toNat (by omega) (by rw [h2 _ h3]; unfold s_spec_l1Product; congr 1; omega) x s [x] rfl a (a.foldl stepP 1).toNat 0 0 (by omega)

-- two shapes
theorem l_same (a b : List Int) (ha : small a) (hab : a.length = b.length) : ∀ (r t : List Int) (j e : Nat), a.drop j = r → b.drop j = t → spec_l2Same_l0 (r.length + 1 + e) a b j = some (decide (r = t))
  | [], t, j, e, hd, hd' => by
    have h := at_nil hd
    rw [show ([] : List Int).length + 1 + e = e + 1 by simp; omega]
    simp only [spec_l2Same_l0]
    have : t = [] := by rw [← hd']; exact List.drop_eq_nil_of_le (by omega)
    rw [if_neg h, this]; rfl
  | x :: r, t, j, e, hd, hd' => by
    obtain ⟨h1, h2, h3, h4, h5, h6⟩ := at_cons hd
    have hb : a.length ≤ big := by unfold small at ha; rw [big_eq]; omega
    cases t with
    | nil => have := at_nil hd'; omega
    | cons y t =>
      obtain ⟨g1, g2, g3, g4, g5, g6⟩ := at_cons hd'
      rw [show (x :: r).length + 1 + e = (r.length + 1 + e) + 1 by simp; omega]
      simp only [spec_l2Same_l0]
      rw [if_pos h2, h3, g3]
      simp only [Option.bind_some]
      rw [succ_w h1 hb, l_same a b ha hab r t (j + 1) e h5 g5]
      by_cases c : x = y
      · rw [if_pos c]; simp [c]
      · rw [if_neg c]; simp [c]
def pre_spec_l2Same (a b : List Int) : Prop := small a
def s_spec_l2Same (a b : List Int) : Bool := decide (a = b)
theorem p_spec_l2Same (a b : List Int) (h : pre_spec_l2Same a b) : ∃ N, spec_l2Same_f N a b = some (s_spec_l2Same a b) := by
  refine ⟨a.length + 1, ?_⟩
  unfold spec_l2Same_f s_spec_l2Same
  by_cases c : (a.length : Int) = b.length
  · rw [if_pos c]
    exact l_same a b h (by omega) a b 0 0 rfl rfl
  · rw [if_neg c]
    have : ¬ a = b := by rintro rfl; exact c rfl
    simp [this]
-- cell by cell: the reference
section
variable (L1 : List Int → List Int → List Int → Option (List Int × List Int)) (L2 : List Int → List Int → Option Bool) (L3 : List Int → Option (List Int))
  (L4 : Int → Int → Int → Option (Int × Int)) (h4 : ∀ op x y, pre_spec_l2Two op x y → L4 op x y = some (s_spec_l2Two op x y))
include h4
theorem l_sEach0 (op : Int) (a b sa sb s' : List Int) (ha : small a) (ca : ∀ x ∈ a, cellIn x) (cb : ∀ x ∈ b, cellIn x) (hab : a.length = b.length) : ∀ (r t : List Int) (j e : Nat) (acc : List Int), a.drop j = r → b.drop j = t → acc.length = j →
    spec_l2Each_l0 L1 L2 L3 L4 (r.length + 1 + e) op j sa a sb b s' acc = some (tri (behindT s' acc (twos op r t)))
  | [], t, j, e, acc, hd, hd', hj => by
    rw [show ([] : List Int).length + 1 + e = e + 1 by simp; omega]
    simp only [spec_l2Each_l0]
    rw [if_neg (at_nil hd)]; simp [twos, behindT, tri]
  | x :: r, t, j, e, acc, hd, hd', hj => by
    obtain ⟨g1, g2, g3, g4, g5, g6⟩ := at_cons hd
    have hb : a.length ≤ big := by unfold small at ha; rw [big_eq]; omega
    cases t with
    | nil => have := at_nil hd'; omega
    | cons y t =>
      obtain ⟨k1, k2, k3, k4, k5, k6⟩ := at_cons hd'
      rw [show (x :: r).length + 1 + e = (r.length + 1 + e) + 1 by simp; omega]
      simp only [spec_l2Each_l0]
      rw [if_pos g2, if_pos (by omega), Int.toNat_natCast, g4]
      simp only [Option.bind_some]
      rw [k3]
      simp only [Option.bind_some]
      rw [h4 _ _ _ ⟨ca x (List.mem_of_getElem? g4), cb y (List.mem_of_getElem? k4)⟩]
      simp only [Option.bind_some, s_spec_l2Two]
      by_cases c : (twoOf op x y).2 = 0
      · rw [if_pos c, if_pos (room_small (by unfold small at ha ⊢; simp; omega)), succ_w g1 hb, l_sEach0 op a b sa sb s' ha ca cb hab r t (j + 1) e _ g5 k5 (by simp [hj]), behindT_cons (two_ok c)]
      · rw [if_neg c, behindT_err (two_err c)]; rfl
theorem l_sEach1 (op : Int) (a b sa sb s' : List Int) (ha : small a) (ca : ∀ x ∈ a, cellIn x) (cb : ∀ x ∈ b, cellIn x) (hab : a.length = b.length) : ∀ (r t : List Int) (j e : Nat) (acc : List Int), a.drop j = r → b.drop j = t → acc.length = j →
    spec_l2Each_l1 L1 L2 L3 L4 (r.length + 1 + e) op j sa a sb b s' acc = some (tri (behindT s' acc (twos op r t)))
  | [], t, j, e, acc, hd, hd', hj => by
    rw [show ([] : List Int).length + 1 + e = e + 1 by simp; omega]
    simp only [spec_l2Each_l1]
    rw [if_neg (at_nil hd)]; simp [twos, behindT, tri]
  | x :: r, t, j, e, acc, hd, hd', hj => by
    obtain ⟨g1, g2, g3, g4, g5, g6⟩ := at_cons hd
    have hb : a.length ≤ big := by unfold small at ha; rw [big_eq]; omega
    cases t with
    | nil => have := at_nil hd'; omega
    | cons y t =>
      obtain ⟨k1, k2, k3, k4, k5, k6⟩ := at_cons hd'
      rw [show (x :: r).length + 1 + e = (r.length + 1 + e) + 1 by simp; omega]
      simp only [spec_l2Each_l1]
      rw [if_pos g2, g3]
      simp only [Option.bind_some]
      rw [if_pos (by omega), Int.toNat_natCast, k4]
      simp only [Option.bind_some]
      rw [h4 _ _ _ ⟨ca x (List.mem_of_getElem? g4), cb y (List.mem_of_getElem? k4)⟩]
      simp only [Option.bind_some, s_spec_l2Two]
      by_cases c : (twoOf op x y).2 = 0
      · rw [if_pos c, if_pos (room_small (by unfold small at ha ⊢; simp; omega)), succ_w g1 hb, l_sEach1 op a b sa sb s' ha ca cb hab r t (j + 1) e _ g5 k5 (by simp [hj]), behindT_cons (two_ok c)]
      · rw [if_neg c, behindT_err (two_err c)]; rfl
theorem l_sEach2 (op : Int) (a b sa sb s' : List Int) (ha : small a) (ca : ∀ x ∈ a, cellIn x) (cb : ∀ x ∈ b, cellIn x) (hab : a.length = b.length) : ∀ (r t : List Int) (j e : Nat) (acc : List Int), a.drop j = r → b.drop j = t → acc.length = j →
    spec_l2Each_l2 L1 L2 L3 L4 (r.length + 1 + e) op j sa a sb b s' acc = some (tri (behindT s' acc (twos op r t)))
  | [], t, j, e, acc, hd, hd', hj => by
    rw [show ([] : List Int).length + 1 + e = e + 1 by simp; omega]
    simp only [spec_l2Each_l2]
    rw [if_neg (at_nil hd)]; simp [twos, behindT, tri]
  | x :: r, t, j, e, acc, hd, hd', hj => by
    obtain ⟨g1, g2, g3, g4, g5, g6⟩ := at_cons hd
    have hb : a.length ≤ big := by unfold small at ha; rw [big_eq]; omega
    cases t with
    | nil => have := at_nil hd'; omega
    | cons y t =>
      obtain ⟨k1, k2, k3, k4, k5, k6⟩ := at_cons hd'
      rw [show (x :: r).length + 1 + e = (r.length + 1 + e) + 1 by simp; omega]
      simp only [spec_l2Each_l2]
      rw [if_pos g2, g3, k3]
      simp only [Option.bind_some]
      rw [h4 _ _ _ ⟨ca x (List.mem_of_getElem? g4), cb y (List.mem_of_getElem? k4)⟩]
      simp only [Option.bind_some, s_spec_l2Two]
      by_cases c : (twoOf op x y).2 = 0
      · rw [if_pos c, if_pos (room_small (by unfold small at ha ⊢; simp; omega)), succ_w g1 hb, l_sEach2 op a b sa sb s' ha ca cb hab r t (j + 1) e _ g5 k5 (by simp [hj]), behindT_cons (two_ok c)]
      · rw [if_neg c, behindT_err (two_err c)]; rfl
end
/-- two arrays, cell by cell -/
def each2 (op : Int) (s1 d1 s2 d2 : List Int) : Except Int (List Int × List Int) :=
  if s1.length = 0 then behindT s2 [] (twos op (List.replicate d2.length (d1.headD 0)) d2)
  else if s2.length = 0 then behindT s1 [] (twos op d1 (List.replicate d1.length (d2.headD 0)))
  else if s1.length = s2.length then (if s1 = s2 then behindT s1 [] (twos op d1 d2) else .error 3)
  else .error 2
theorem one_cell {s d : List Int} (h : arrOk s d = true) (h0 : s.length = 0) : ∃ x, d = [x] ∧ cellIn x := by
  obtain ⟨h1, h2, h3, h4, h5⟩ := arrOk_small h
  have : s = [] := List.eq_nil_of_length_eq_zero h0
  subst this
  simp only [List.foldl_nil] at h5
  cases d with
  | nil => simp at h5
  | cons x d =>
    simp only [List.length_cons] at h5
    have : d = [] := List.eq_nil_of_length_eq_zero (by omega)
    subst this
    exact ⟨x, rfl, (arrOk_cells h).1 x (by simp)⟩
def pre_spec_l2Each (op : Int) (s1 d1 s2 d2 : List Int) : Prop := arrOk s1 d1 = true ∧ arrOk s2 d2 = true
def s_spec_l2Each (op : Int) (s1 d1 s2 d2 : List Int) : List Int × List Int × Int := tri (each2 op s1 d1 s2 d2)
theorem p_spec_l2Each (L1 : List Int → List Int → List Int → Option (List Int × List Int)) (h1 : ∀ s d a, pre_spec_l2Wide s d a → L1 s d a = some (s_spec_l2Wide s d a))
    (L2 : List Int → List Int → Option Bool) (h2 : ∀ a b, pre_spec_l2Same a b → L2 a b = some (s_spec_l2Same a b)) (L3 : List Int → Option (List Int)) (h3 : ∀ l, pre_spec_l2Copy l → L3 l = some (s_spec_l2Copy l))
    (L4 : Int → Int → Int → Option (Int × Int)) (h4 : ∀ op x y, pre_spec_l2Two op x y → L4 op x y = some (s_spec_l2Two op x y)) (op : Int) (s1 d1 s2 d2 : List Int) (h : pre_spec_l2Each op s1 d1 s2 d2) :
    ∃ N, spec_l2Each_f L1 L2 L3 L4 N op s1 d1 s2 d2 = some (s_spec_l2Each op s1 d1 s2 d2) := by
  obtain ⟨ha, hb⟩ := h
  obtain ⟨a1, a2, a3, a4, a5⟩ := arrOk_small ha
  obtain ⟨b1, b2, b3, b4, b5⟩ := arrOk_small hb
  have ca := (arrOk_cells ha).1
  have cb := (arrOk_cells hb).1
  unfold spec_l2Each_f s_spec_l2Each each2
  by_cases c1 : s1.length = 0
  · obtain ⟨x, rfl, hx⟩ := one_cell ha c1
    have en : (s2.foldl stepP 1).toNat = d2.length := by omega
    refine ⟨d2.length + 1, ?_⟩
    rw [if_pos (by omega), if_pos c1, h1 _ _ _ ⟨b1, (arrOk_cells hb).2.1, rfl⟩]
    simp only [Option.bind_some, s_spec_l2Wide, en, List.headD_cons]
    rw [if_pos trivial, h2 _ _ b1, h3 _ b1]
    simp only [Option.bind_some, s_spec_l2Same, s_spec_l2Copy, decide_true]
    rw [if_neg (by simp)]
    have key := l_sEach0 L1 L2 L3 L4 h4 op (List.replicate d2.length x) d2 s2 s2 s2 (by unfold small at *; simpa using b2) (fun y hy => by rw [(List.mem_replicate.1 hy).2]; exact hx) cb (by simp) (List.replicate d2.length x) d2 0 0 [] rfl rfl rfl
    simpa using key
  · have i1 : ¬ (s1.length : Int) = 0 := by omega
    by_cases c2 : s2.length = 0
    · obtain ⟨x, rfl, hx⟩ := one_cell hb c2
      have en : (s1.foldl stepP 1).toNat = d1.length := by omega
      refine ⟨d1.length + 1, ?_⟩
      rw [if_neg i1, if_neg c1, if_pos (show (s2.length : Int) = 0 by omega), if_pos c2, h1 _ _ _ ⟨a1, (arrOk_cells ha).2.1, rfl⟩]
      simp only [Option.bind_some, s_spec_l2Wide, en, List.headD_cons]
      rw [if_pos trivial, h2 _ _ a1, h3 _ a1]
      simp only [Option.bind_some, s_spec_l2Same, s_spec_l2Copy, decide_true]
      rw [if_neg (by simp)]
      have key := l_sEach1 L1 L2 L3 L4 h4 op d1 (List.replicate d1.length x) s1 s1 s1 a2 ca (fun y hy => by rw [(List.mem_replicate.1 hy).2]; exact hx) (by simp) d1 (List.replicate d1.length x) 0 0 [] rfl rfl rfl
      simpa using key
    · have i2 : ¬ (s2.length : Int) = 0 := by omega
      by_cases c3 : s1.length = s2.length
      · refine ⟨d1.length + 1, ?_⟩
        rw [if_neg i1, if_neg c1, if_neg i2, if_neg c2, if_pos (show (s1.length : Int) = s2.length by omega), if_pos c3, h2 _ _ a1, h3 _ a1]
        simp only [Option.bind_some, s_spec_l2Same, s_spec_l2Copy]
        by_cases c4 : s1 = s2
        · subst c4
          rw [if_neg (by simp), if_pos rfl]
          have key := l_sEach2 L1 L2 L3 L4 h4 op d1 d2 s1 s1 s1 a2 ca cb (by omega) d1 d2 0 0 [] rfl rfl rfl
          simpa using key
        · rw [if_pos (by simp [c4]), if_neg c4]; rfl
      · refine ⟨0, ?_⟩
        rw [if_neg i1, if_neg c1, if_neg i2, if_neg c2, if_neg (show ¬ (s1.length : Int) = s2.length by omega), if_neg c3]; rfl
end Go.Vm
/- Folds over rows: the reference and the program's own. -/
namespace Go.Vm

-- products
def prodI : List Int → Int
  | [] => 1
  | x :: l => x * prodI l
theorem prodI_nonneg : ∀ {l : List Int}, l.all axOk = true → 0 ≤ prodI l
  | [], _ => by simp [prodI]
  | x :: l, h => by
    simp only [List.all_cons, Bool.and_eq_true, axOk, decide_eq_true_eq] at h
    exact Int.mul_nonneg h.1.1 (prodI_nonneg h.2)
theorem foldW : ∀ (l : List Int) (p B : Int), 0 ≤ p → p ≤ B → B * 1000 ^ l.length ≤ 1000000000 → l.all axOk = true → l.foldl stepW p = p * prodI l
  | [], p, B, h0, hB, hm, ha => by simp [prodI]
  | x :: l, p, B, h0, hB, hm, ha => by
    simp only [List.all_cons, Bool.and_eq_true, axOk, decide_eq_true_eq] at ha
    obtain ⟨⟨x0, x1⟩, ha⟩ := ha
    have hB0 : 0 ≤ B := Int.le_trans h0 hB
    have hp1 : p * x ≤ B * 1000 := Int.mul_le_mul hB x1 x0 hB0
    have hp0 : 0 ≤ p * x := Int.mul_nonneg h0 x0
    have hm' : (B * 1000) * 1000 ^ l.length ≤ 1000000000 := by
      rw [List.length_cons, Int.pow_succ, Int.mul_comm (1000 ^ l.length) 1000, ← Int.mul_assoc] at hm
      exact hm
    have hpow : (1 : Int) ≤ 1000 ^ l.length := Int.pow_pos (by omega)
    have hBs : B * 1000 ≤ 1000000000 := by
      have := Int.mul_le_mul_of_nonneg_left hpow (show 0 ≤ B * 1000 by omega)
      omega
    simp only [List.foldl_cons]
    have e1 : stepW p x = p * x := by unfold stepW; exact w64_in (by omega)
    rw [e1, foldW l (p * x) (B * 1000) hp0 hp1 hm' ha, prodI, Int.mul_assoc]
theorem fits_iff (l : List Int) : fits l = true ↔ l.length ≤ 3 ∧ l.all axOk = true ∧ prodI l ≤ 1000 := by
  unfold fits
  simp only [Bool.and_eq_true, decide_eq_true_eq, and_assoc]
  refine and_congr_right fun hl => and_congr_right fun ha => ?_
  have e : l.foldl stepW 1 = prodI l := by
    rw [foldW l 1 1 (by omega) (by omega) ?_ ha, Int.one_mul]
    rw [Int.one_mul]
    have : l.length = 0 ∨ l.length = 1 ∨ l.length = 2 ∨ l.length = 3 := by omega
    rcases this with h | h | h | h <;> rw [h] <;> decide
  have hc := fold_fits l hl ha
  rw [e] at hc
  constructor
  · intro h
    apply Classical.byContradiction
    intro hn
    have := hc.2 (by omega)
    omega
  · intro h; rw [hc.1 h]; exact h
theorem fits_prod {l : List Int} (h : fits l = true) : l.foldl stepP 1 = prodI l := by
  obtain ⟨hl, ha, hp⟩ := (fits_iff l).1 h
  have e : l.foldl stepW 1 = prodI l := by
    rw [foldW l 1 1 (by omega) (by omega) ?_ ha, Int.one_mul]
    rw [Int.one_mul]
    have : l.length = 0 ∨ l.length = 1 ∨ l.length = 2 ∨ l.length = 3 := by omega
    rcases this with h | h | h | h <;> rw [h] <;> decide
  have hc := fold_fits l hl ha
  rw [e] at hc
  exact hc.1 hp
theorem fits_cons {n : Int} {t : List Int} (h : fits (n :: t) = true) : 0 ≤ n ∧ n ≤ 1000 ∧ 0 ≤ prodI t ∧ n * prodI t ≤ 1000 ∧ t.length ≤ 2 := by
  obtain ⟨hl, ha, hp⟩ := (fits_iff _).1 h
  simp only [List.all_cons, Bool.and_eq_true, axOk, decide_eq_true_eq] at ha
  simp only [List.length_cons] at hl
  exact ⟨ha.1.1, ha.1.2, prodI_nonneg ha.2, hp, by omega⟩
theorem fits_tail {n : Int} {t : List Int} (h : fits (n :: t) = true) (hn : 1 ≤ n) : fits t = true := by
  obtain ⟨h1, h2, h3, h4, h5⟩ := fits_cons h
  obtain ⟨hl, ha, hp⟩ := (fits_iff _).1 h
  simp only [List.all_cons, Bool.and_eq_true] at ha
  refine (fits_iff t).2 ⟨by omega, ha.2, ?_⟩
  have := Int.mul_le_mul_of_nonneg_right hn h3
  omega
theorem fits_le {n k : Int} {t : List Int} (h : fits (n :: t) = true) (hk : 0 ≤ k ∧ k ≤ n) : fits (k :: t) = true := by
  obtain ⟨h1, h2, h3, h4, h5⟩ := fits_cons h
  obtain ⟨hl, ha, hp⟩ := (fits_iff _).1 h
  simp only [List.all_cons, Bool.and_eq_true, axOk, decide_eq_true_eq] at ha
  refine (fits_iff _).2 ⟨by simpa using hl, ?_, ?_⟩
  · simp only [List.all_cons, Bool.and_eq_true, axOk, decide_eq_true_eq]
    exact ⟨by omega, ha.2⟩
  · have := Int.mul_le_mul_of_nonneg_right hk.2 h3
    rw [prodI]; omega
theorem mk_arr {s d : List Int} (h : fits s = true) (hl : (d.length : Int) = prodI s) (hc : ∀ x ∈ d, cellIn x) : arrOk s d = true := by
  unfold arrOk
  rw [h, fits_prod h]
  simp only [hl, decide_true, Bool.and_self, Bool.true_and, List.all_eq_true]
  intro x hx
  have := hc x hx
  simpa [cellOk, cellIn] using this
theorem arr_len {s d : List Int} (h : arrOk s d = true) : (d.length : Int) = prodI s := by
  obtain ⟨h1, h2, h3⟩ := arrOk_cells h
  rw [h3, fits_prod h2]

-- results stay within bounds
theorem inR_ok {x : Int} (h : (inR x).2 = 0) : cellIn (inR x).1 := by
  unfold inR at h ⊢
  split at h
  · simp at h
  · split at h
    · simp at h
    · rename_i c1 c2
      rw [if_neg c1, if_neg c2]
      unfold cellIn; omega
theorem bool_in (b : Bool) : cellIn (s_spec_l2Bool b) := by cases b <;> (unfold cellIn s_spec_l2Bool; decide)
theorem two_in {op x y v : Int} (hx : cellIn x) (hy : cellIn y) (h : two op x y = .ok v) : cellIn v := by
  unfold two at h
  split at h
  · rename_i c
    simp only [Except.ok.injEq] at h
    subst h
    have hr := res_abs x y hx hy
    unfold twoOf at c ⊢
    repeat' split
    all_goals first
      | exact hx
      | exact hy
      | exact hr
      | exact bool_in _
      | (apply inR_ok; simp_all; done)
      | (exfalso; simp_all; done)
  · cases h
theorem twos_in {op : Int} : ∀ {a b l : List Int}, (∀ x ∈ a, cellIn x) → (∀ x ∈ b, cellIn x) → twos op a b = .ok l → ∀ z ∈ l, cellIn z
  | [], b, l, ha, hb, h => by simp only [twos, Except.ok.injEq] at h; subst h; simp
  | x :: a, [], l, ha, hb, h => by simp only [twos, Except.ok.injEq] at h; subst h; simp
  | x :: a, y :: b, l, ha, hb, h => by
    simp only [twos] at h
    cases h1 : two op x y with
    | error c => rw [h1] at h; cases h
    | ok v =>
      rw [h1] at h
      cases h2 : twos op a b with
      | error c => rw [h2] at h; cases h
      | ok l' =>
        rw [h2] at h
        simp only [Except.ok.injEq] at h
        subst h
        intro z hz
        rcases List.mem_cons.1 hz with rfl | hz
        · exact two_in (ha x (by simp)) (hb y (by simp)) h1
        · exact twos_in (fun x hx => ha x (by simp [hx])) (fun x hx => hb x (by simp [hx])) h2 z hz
theorem twos_err {op c : Int} : ∀ {a b : List Int}, twos op a b = .error c → ¬ c = 0
  | [], b, h => by simp [twos] at h
  | x :: a, [], h => by simp [twos] at h
  | x :: a, y :: b, h => by
    simp only [twos] at h
    cases h1 : two op x y with
    | error c' =>
      rw [h1] at h
      simp only [Except.error.injEq] at h
      subst h
      unfold two at h1
      split at h1
      · cases h1
      · rename_i q
        simp only [Except.error.injEq] at h1
        rw [← h1]; exact q
    | ok v =>
      rw [h1] at h
      cases h2 : twos op a b with
      | error c' =>
        rw [h2] at h
        simp only [Except.error.injEq] at h
        subst h
        exact twos_err h2
      | ok l' => rw [h2] at h; cases h
theorem each2_same {op : Int} {t a b : List Int} (ha : arrOk t a = true) (hb : arrOk t b = true) : each2 op t a t b = behindT t [] (twos op a b) := by
  unfold each2
  by_cases c : t.length = 0
  · obtain ⟨x, rfl, hx⟩ := one_cell ha c
    obtain ⟨y, rfl, hy⟩ := one_cell hb c
    rw [if_pos c]; rfl
  · rw [if_neg c, if_neg c, if_pos rfl, if_pos rfl]

-- rows
def nthRow (d : List Int) (w i : Nat) : List Int := (d.drop (i * w)).take w
theorem nthRow_len {d : List Int} {w i : Nat} (h : (i + 1) * w ≤ d.length) : (nthRow d w i).length = w := by
  unfold nthRow
  rw [Nat.add_mul, Nat.one_mul] at h
  simp only [List.length_take, List.length_drop]
  omega
theorem nthRow_in {d : List Int} {w i : Nat} {p : Int → Prop} (h : ∀ x ∈ d, p x) : ∀ x ∈ nthRow d w i, p x :=
  fun x hx => h x (List.mem_of_mem_drop (List.mem_of_mem_take hx))
theorem nthRow_get {d : List Int} {w i j : Nat} (hj : j < w) : (nthRow d w i)[j]? = d[i * w + j]? := by
  unfold nthRow
  rw [List.getElem?_take, if_pos hj, List.getElem?_drop]
theorem cut_tail (n : Int) (t : List Int) : cut (n :: t) 1 ((n :: t).length : Int) = some t := by
  unfold cut
  rw [if_pos (by simp only [List.length_cons]; omega)]
  simp
/-- rows below, into what was gathered -/
def redu (op : Int) (d : List Int) (w : Nat) : Nat → List Int → Except Int (List Int)
  | 0, acc => .ok acc
  | i + 1, acc => match twos op (nthRow d w i) acc with
    | .ok l => redu op d w i l
    | .error c => .error c
/-- what an empty fold gives -/
def noneOf (op : Int) : Option Int :=
  if op = 3 then some 1 else if op = 4 then some 1 else if op = 6 then some 3000000000 else if op = 7 then some (-3000000000)
  else if op = 1 then some 0 else if op = 2 then some 0 else if op = 5 then some 0 else none
/-- the fold of the first k rows -/
def foldN (op : Int) (s d : List Int) (k : Int) : Except Int (List Int × List Int) := match s with
  | [] => .ok ([], d)
  | n :: t => if k = 0 then (match noneOf op with
      | none => .error 1
      | some v => if fits t = true then .ok (t, List.replicate (prodI t).toNat v) else .error 6)
    else behindT t [] (redu op d (prodI t).toNat (k - 1).toNat (nthRow d (prodI t).toNat (k - 1).toNat))

theorem foldN_pos {op n k : Int} {t d : List Int} (h : ¬ k = 0) : foldN op (n :: t) d k = behindT t [] (redu op d (prodI t).toNat (k - 1).toNat (nthRow d (prodI t).toNat (k - 1).toNat)) := if_neg h
def pre_spec_l2None (op : Int) : Prop := True
def s_spec_l2None (op : Int) : Int × Bool := match noneOf op with
  | some v => (v, true)
  | none => (0, false)
theorem p_spec_l2None (op : Int) (h : pre_spec_l2None op) : ∃ N, spec_l2None_f N op = some (s_spec_l2None op) := by
  refine ⟨0, ?_⟩
  unfold spec_l2None_f s_spec_l2None noneOf
  by_cases c3 : op = 3
  · simp [c3]
  by_cases c4 : op = 4
  · simp [c4]
  by_cases c6 : op = 6
  · simp [c6]
  by_cases c7 : op = 7
  · simp [c7]
  by_cases c1 : op = 1
  · simp [c1]
  by_cases c2 : op = 2
  · simp [c2]
  by_cases c5 : op = 5
  · simp [c5]
  · simp [c1, c2, c3, c4, c5, c6, c7]
def pre_impl_nothingOf (op : Int) : Prop := True
def s_impl_nothingOf (op : Int) : Res Int := match noneOf op with
  | some v => .ok v
  | none => .pan (thrown 1)
theorem p_impl_nothingOf (op : Int) (h : pre_impl_nothingOf op) : ∃ N, impl_nothingOf_f N op = some (s_impl_nothingOf op) := by
  refine ⟨0, ?_⟩
  unfold impl_nothingOf_f s_impl_nothingOf noneOf
  by_cases c3 : op = 3
  · simp [c3]
  by_cases c4 : op = 4
  · simp [c4]
  by_cases c6 : op = 6
  · simp [c6]
  by_cases c7 : op = 7
  · simp [c7]
  by_cases c1 : op = 1
  · simp [c1]
  by_cases c2 : op = 2
  · simp [c2]
  by_cases c5 : op = 5
  · simp [c5]
  · simp [c1, c2, c3, c4, c5, c6, c7, thrown]
def pre_spec_l2Made (s d : List Int) : Prop := small s
def s_spec_l2Made (s d : List Int) : Alt (List Int × List Int) (List Int × List Int) := if fits s = true then .b (s, d) else .a (s, d)
theorem p_spec_l2Made (L : List Int → Option Bool) (hL : ∀ l, pre_spec_l1Fits l → L l = some (s_spec_l1Fits l)) (s d : List Int) (h : pre_spec_l2Made s d) : ∃ N, spec_l2Made_f L N s d = some (s_spec_l2Made s d) := by
  refine ⟨0, ?_⟩
  unfold spec_l2Made_f s_spec_l2Made
  rw [hL _ h]
  simp only [Option.bind_some, s_spec_l1Fits]
  cases fits s <;> simp

/-- a row that there is -/
def pre_spec_l2Row (s d : List Int) (i : Int) : Prop := small d ∧ ∃ n t, s = n :: t ∧ fits t = true ∧ 0 ≤ i ∧ (i.toNat + 1) * (prodI t).toNat ≤ d.length
def s_spec_l2Row (s d : List Int) (i : Int) : List Int × List Int := (s.tail, nthRow d (prodI s.tail).toNat i.toNat)
theorem cut_row {d : List Int} (hd : small d) {w i : Nat} (h : (i + 1) * w ≤ d.length) : cut d ((i : Int) * w) ((i : Int) * w + w) = some (nthRow d w i) := by
  unfold cut nthRow
  have e : (i : Int) * w = ((i * w : Nat) : Int) := by simp
  rw [Nat.add_mul, Nat.one_mul] at h
  rw [e, if_pos (by omega), Int.toNat_natCast, show (((i * w : Nat) : Int) + w - ((i * w : Nat) : Int)).toNat = w by omega]
theorem p_spec_l2Row (L1 : List Int → Option (List Int)) (h1 : ∀ l, pre_spec_l2Copy l → L1 l = some (s_spec_l2Copy l)) (L2 : List Int → Option Int) (h2 : ∀ l, pre_spec_l1Product l → L2 l = some (s_spec_l1Product l))
    (s d : List Int) (i : Int) (h : pre_spec_l2Row s d i) : ∃ N, spec_l2Row_f L1 L2 N s d i = some (s_spec_l2Row s d i) := by
  obtain ⟨hd, n, t, rfl, ht, hi, hl⟩ := h
  obtain ⟨i, rfl⟩ := Int.eq_ofNat_of_zero_le hi
  obtain ⟨w1, w2, w3⟩ := (fits_iff t).1 ht
  obtain ⟨w, hw⟩ := Int.eq_ofNat_of_zero_le (prodI_nonneg w2)
  have hts : small t := by unfold small; omega
  have hds : d.length ≤ 1048576 := hd
  refine ⟨0, ?_⟩
  unfold spec_l2Row_f s_spec_l2Row
  simp only [List.tail_cons]
  rw [cut_tail]
  simp only [Option.bind_some]
  rw [h1 _ hts]
  simp only [Option.bind_some, s_spec_l2Copy]
  rw [h2 _ hts]
  simp only [Option.bind_some, s_spec_l1Product, fits_prod ht]
  rw [hw] at hl ⊢
  simp only [Int.toNat_natCast, Int.ofNat_eq_natCast] at hl ⊢
  have hl' := hl
  rw [Nat.add_mul, Nat.one_mul] at hl'
  have e : (i : Int) * w = ((i * w : Nat) : Int) := by simp
  rw [w64_in (n := (i : Int) * w) (by omega), w64_in (by omega), cut_row hd hl]
  simp only [Option.bind_some]
  rw [h1 _ (by show small _; unfold small; rw [nthRow_len hl]; omega)]
  rfl

-- the reference's fold
section
variable (L1 : List Int → Option (List Int)) (L2 : Int → Option (Int × Bool)) (L3 : List Int → List Int → Option (Alt (List Int × List Int) (List Int × List Int))) (L4 : List Int → List Int → List Int → Option (List Int × List Int))
  (L5 : List Int → List Int → Int → Option (List Int × List Int)) (h5 : ∀ s d i, pre_spec_l2Row s d i → L5 s d i = some (s_spec_l2Row s d i))
  (L6 : Int → List Int → List Int → List Int → List Int → Option (List Int × List Int × Int)) (h6 : ∀ op s1 d1 s2 d2, pre_spec_l2Each op s1 d1 s2 d2 → L6 op s1 d1 s2 d2 = some (s_spec_l2Each op s1 d1 s2 d2))
include h5 h6
theorem l_sReduce (op n : Int) (t d : List Int) (w : Nat) (ht : fits t = true) (hw : prodI t = (w : Int)) (hd : small d) (hc : ∀ x ∈ d, cellIn x) : ∀ (i e : Nat) (acc : List Int), i ≤ 1000 → i * w ≤ d.length → (acc.length : Int) = prodI t → (∀ x ∈ acc, cellIn x) →
    spec_l2Reduce_l0 L1 L2 L3 L4 L5 L6 (i + 1 + e) op ((i : Int) - 1) (n :: t) d t acc = some (tri (behindT t [] (redu op d w i acc)))
  | 0, e, acc, hb, hi, ha, hin => by
    rw [show 0 + 1 + e = e + 1 by omega]
    simp only [spec_l2Reduce_l0]
    rw [if_neg (by omega)]; simp [redu, behindT, tri]
  | i + 1, e, acc, hb, hi, ha, hin => by
    rw [show i + 1 + 1 + e = (i + 1 + e) + 1 by omega]
    simp only [spec_l2Reduce_l0]
    have hi' := hi
    rw [Nat.add_mul, Nat.one_mul] at hi'
    have e1 : (((i + 1 : Nat) : Int) - 1) = (i : Int) := by omega
    have hwt : (prodI t).toNat = w := by rw [hw]; rfl
    have hr : small d ∧ ∃ n' t', n :: t = n' :: t' ∧ fits t' = true ∧ 0 ≤ (i : Int) ∧ ((i : Int).toNat + 1) * (prodI t').toNat ≤ d.length :=
      ⟨hd, n, t, rfl, ht, by omega, by rw [hwt, Int.toNat_natCast]; exact hi⟩
    rw [e1, if_pos (by omega), h5 _ _ _ hr]
    simp only [Option.bind_some, s_spec_l2Row, List.tail_cons, hwt, Int.toNat_natCast]
    have a1 : arrOk t (nthRow d w i) = true := mk_arr ht (by rw [nthRow_len hi, hw]) (nthRow_in hc)
    have a2 : arrOk t acc = true := mk_arr ht ha hin
    rw [h6 _ _ _ _ _ ⟨a1, a2⟩]
    simp only [Option.bind_some, s_spec_l2Each, each2_same a1 a2, redu]
    cases h : twos op (nthRow d w i) acc with
    | error c =>
      exact if_neg (twos_err h)
    | ok l =>
      refine (if_pos rfl).trans ?_
      show spec_l2Reduce_l0 L1 L2 L3 L4 L5 L6 (i + 1 + e) op (w64 ((i : Int) - 1)) (n :: t) d t ([] ++ l) = _
      have hlen := arr_len a1
      rw [List.nil_append, show w64 ((i : Int) - 1) = (i : Int) - 1 from w64_in (by omega)]
      exact l_sReduce op n t d w ht hw hd hc i e l (by omega) (by omega) (by rw [twos_len h (by have := arr_len a2; omega)]; exact hlen) (twos_in (nthRow_in hc) hin h)
end
def pre_spec_l2Reduce (op : Int) (s d : List Int) : Prop := arrOk s d = true
def s_spec_l2Reduce (op : Int) (s d : List Int) : List Int × List Int × Int := tri (foldN op s d (s.headD 0))
theorem p_spec_l2Reduce (L1 : List Int → Option (List Int)) (h1 : ∀ l, pre_spec_l2Copy l → L1 l = some (s_spec_l2Copy l)) (L2 : Int → Option (Int × Bool)) (h2 : ∀ op, pre_spec_l2None op → L2 op = some (s_spec_l2None op))
    (L3 : List Int → List Int → Option (Alt (List Int × List Int) (List Int × List Int))) (h3 : ∀ s d, pre_spec_l2Made s d → L3 s d = some (s_spec_l2Made s d)) (L4 : List Int → List Int → List Int → Option (List Int × List Int)) (h4 : ∀ s d a, pre_spec_l2Wide s d a → L4 s d a = some (s_spec_l2Wide s d a))
    (L5 : List Int → List Int → Int → Option (List Int × List Int)) (h5 : ∀ s d i, pre_spec_l2Row s d i → L5 s d i = some (s_spec_l2Row s d i))
    (L6 : Int → List Int → List Int → List Int → List Int → Option (List Int × List Int × Int)) (h6 : ∀ op s1 d1 s2 d2, pre_spec_l2Each op s1 d1 s2 d2 → L6 op s1 d1 s2 d2 = some (s_spec_l2Each op s1 d1 s2 d2))
    (op : Int) (s d : List Int) (h : pre_spec_l2Reduce op s d) : ∃ N, spec_l2Reduce_f L1 L2 L3 L4 L5 L6 N op s d = some (s_spec_l2Reduce op s d) := by
  obtain ⟨a1, a2, a3, a4, a5⟩ := arrOk_small h
  have hf := (arrOk_cells h).2.1
  have hc := (arrOk_cells h).1
  unfold spec_l2Reduce_f s_spec_l2Reduce
  cases s with
  | nil =>
    refine ⟨0, ?_⟩
    rw [if_pos (show (([] : List Int).length : Int) = 0 from rfl), h1 _ a2]; rfl
  | cons n t =>
    obtain ⟨n0, n1, p0, p1, t2⟩ := fits_cons hf
    have ht2 : small t := by unfold small; omega
    have e0 : idx (n :: t) 0 = some n := rfl
    by_cases c : n = 0
    · refine ⟨0, ?_⟩
      subst c
      rw [if_neg (by simp only [List.length_cons]; omega), e0]
      simp only [Option.bind_some, if_true, List.headD_cons, foldN]
      rw [h2 _ trivial]
      simp only [Option.bind_some, s_spec_l2None]
      cases noneOf op with
      | none => rfl
      | some v =>
        refine (if_neg (by simp)).trans ?_
        rw [cut_tail]
        simp only [Option.bind_some]
        rw [h1 _ ht2]
        simp only [Option.bind_some, s_spec_l2Copy]
        rw [h3 _ _ ht2]
        simp only [Option.bind_some, s_spec_l2Made]
        by_cases cf : fits t = true
        · rw [if_pos cf, if_pos cf]
          simp only [Alt.on]
          rw [h4 _ _ _ ⟨ht2, cf, rfl⟩]
          simp only [Option.bind_some, s_spec_l2Wide, fits_prod cf]; rfl
        · rw [if_neg cf, if_neg cf]; rfl
    · obtain ⟨w, hw⟩ := Int.eq_ofNat_of_zero_le p0
      obtain ⟨m, hm⟩ := Int.eq_ofNat_of_zero_le (show 0 ≤ n - 1 by omega)
      have hft := fits_tail hf (by omega)
      have hlen := arr_len h
      have hnm : n = ((m + 1 : Nat) : Int) := by omega
      have hdl : (m + 1) * w = d.length := by
        rw [prodI, hw, hnm] at hlen
        exact_mod_cast hlen.symm
      have hwt : (prodI t).toNat = w := by rw [hw]; rfl
      refine ⟨m + 1, ?_⟩
      rw [if_neg (by simp only [List.length_cons]; omega), e0]
      simp only [Option.bind_some]
      rw [if_neg c, show (n :: t).headD 0 = n from rfl, foldN_pos c]
      have hr : small d ∧ ∃ n' t', n :: t = n' :: t' ∧ fits t' = true ∧ 0 ≤ (m : Int) ∧ ((m : Int).toNat + 1) * (prodI t').toNat ≤ d.length :=
        ⟨a2, n, t, rfl, hft, by omega, by rw [hwt, Int.toNat_natCast]; omega⟩
      rw [show w64 (n - 1) = (m : Int) by rw [w64_in (by omega)]; exact hm, h5 _ _ _ hr]
      simp only [Option.bind_some, s_spec_l2Row, List.tail_cons, hwt, Int.toNat_natCast]
      rw [show w64 (n - 2) = (m : Int) - 1 by rw [w64_in (by omega)]; omega]
      have hrl : (nthRow d w m).length = w := nthRow_len (by omega)
      have key := l_sReduce L1 L2 L3 L4 L5 h5 L6 h6 op n t d w hft hw a2 hc m 0 (nthRow d w m) (by omega) (by rw [Nat.add_mul] at hdl; omega) (by rw [hrl, hw]) (nthRow_in hc)
      rw [show (n - 1).toNat = m by omega]
      exact key

-- the program's own fold
section
variable (L1 : Int → Option (Res Int)) (L2 : List Int → Option (Res (List Int × Option Nat × List Int))) (L3 : List Int → Option (List Int)) (h3 : ∀ l, pre_slices_Clone___int_int_ l → L3 l = some (s_slices_Clone___int_int_ l))
  (Ld : Nat → Int → Int → Option (Res Int)) (f : Nat) (op : Int) (hD : ∀ x y, cellIn x → cellIn y → Ld f x y = some (resOf (twoOf op x y)))
include hD
theorem l_iFold2 (K : Nat → Int → Int → List Int → List Int → List Int → Option (Res (List Int × List Int))) (s d : List Int) (w i : Nat) (hd : small d) (hc : ∀ x ∈ d, cellIn x) (hi : (i + 1) * w ≤ d.length) :
    ∀ (r t v : List Int) (e : Nat), (nthRow d w i).drop v.length = r → t.length = r.length → (∀ y ∈ t, cellIn y) → v.length + r.length = w →
    impl_fold_l2 L1 L2 L3 Ld K (r.length + 1 + e) f w i w v.length s d (v ++ t) = match twos op r t with
      | .ok l => K f w (w64 ((i : Int) - 1)) s d (v ++ l)
      | .error c => some (.pan (thrown c))
  | [], t, v, e, hr, ht, hin, hv => by
    have : t = [] := List.eq_nil_of_length_eq_zero (by simpa using ht)
    subst this
    rw [show ([] : List Int).length + 1 + e = e + 1 by simp; omega]
    simp only [impl_fold_l2]
    rw [if_neg (by simp only [List.length_nil] at hv; omega)]
    simp [twos]
  | x :: r, t, v, e, hr, ht, hin, hv => by
    cases t with
    | nil => simp at ht
    | cons y t =>
      obtain ⟨g1, g2, g3, g4, g5, g6⟩ := at_cons hr
      have hd' : d.length ≤ 1048576 := hd
      have hi' := hi
      rw [Nat.add_mul, Nat.one_mul] at hi'
      rw [nthRow_len hi] at g1
      have hxd : d[i * w + v.length]? = some x := by rw [← nthRow_get g1]; exact g4
      have hx := hc x (List.mem_of_getElem? hxd)
      have hy := hin y (by simp)
      have e0 : (i : Int) * w = ((i * w : Nat) : Int) := by simp
      have e1 : w64 (w64 ((i : Int) * w) + (v.length : Int)) = ((i * w + v.length : Nat) : Int) := by
        rw [w64_in (n := (i : Int) * w) (by omega), w64_in (by omega)]; omega
      have e2 : 0 ≤ (v.length : Int) ∧ (v.length : Int) < ((v ++ y :: t).length : Int) := by simp only [List.length_append, List.length_cons]; omega
      have e3 : (v ++ y :: t)[v.length]? = some y := by simp
      have e4 : ∀ z : Int, setN (v ++ y :: t) v.length z = some ((v ++ [z]) ++ t) := by
        intro z
        rw [setN, if_pos (by simp)]
        simp
      rw [show (x :: r).length + 1 + e = (r.length + 1 + e) + 1 by simp; omega]
      simp only [impl_fold_l2]
      rw [if_pos (by omega), e1, idx_nat, hxd]
      simp only [Option.bind_some]
      rw [if_pos e2, Int.toNat_natCast, e3]
      simp only [Option.bind_some]
      rw [hD x y hx hy]
      simp only [Option.bind_some, resOf, twos]
      by_cases c : (twoOf op x y).2 = 0
      · rw [if_pos c, two_ok c]
        simp only [Res.on]
        rw [if_pos e2, e4]
        simp only [Option.bind_some]
        rw [succ_w (n := w) g1 (by rw [big_eq]; omega)]
        have key := l_iFold2 K s d w i hd hc hi r t (v ++ [(twoOf op x y).1]) e (by simpa using g5) (by simpa using ht) (fun z hz => hin z (by simp [hz])) (by simp at hv ⊢; omega)
        simp only [List.length_append, List.length_cons, List.length_nil, Nat.zero_add] at key
        rw [key]
        cases twos op r t <;> simp
      · rw [if_neg c, two_err c]; rfl
include h3
theorem l_iFold1 (n : Int) (t d : List Int) (w : Nat) (hs : small t) (hd : small d) (hc : ∀ x ∈ d, cellIn x) (M : Nat) : ∀ (i e : Nat) (acc : List Int), i ≤ 1000 → i * w ≤ d.length → acc.length = w → (∀ x ∈ acc, cellIn x) →
    impl_fold_l1 L1 L2 L3 Ld (w + 1 + M) (i + 1 + e) f w ((i : Int) - 1) (n :: t) d acc = some (pans (behindT t [] (redu op d w i acc)))
  | 0, e, acc, hb, hi, ha, hin => by
    rw [show 0 + 1 + e = e + 1 by omega]
    simp only [impl_fold_l1]
    rw [if_neg (by omega), cut_tail]
    simp only [Option.bind_some]
    rw [h3 _ hs]; simp [redu, behindT, pans, s_slices_Clone___int_int_]
  | i + 1, e, acc, hb, hi, ha, hin => by
    rw [show i + 1 + 1 + e = (i + 1 + e) + 1 by omega]
    simp only [impl_fold_l1]
    have e1 : (((i + 1 : Nat) : Int) - 1) = (i : Int) := by omega
    have hi' := hi
    rw [Nat.add_mul, Nat.one_mul] at hi'
    rw [e1, if_pos (by omega), ha]
    have hrl := nthRow_len hi
    have key := l_iFold2 L1 L2 L3 Ld f op hD (impl_fold_l1 L1 L2 L3 Ld (w + 1 + M) (i + 1 + e)) (n :: t) d w i hd hc hi (nthRow d w i) acc [] M rfl (by omega) hin (by simpa using hrl)
    rw [hrl] at key
    simp only [List.length_nil, List.nil_append] at key
    refine key.trans ?_
    simp only [redu]
    cases h : twos op (nthRow d w i) acc with
    | error c => rfl
    | ok l =>
      simp only
      rw [show w64 ((i : Int) - 1) = (i : Int) - 1 from w64_in (by omega)]
      exact l_iFold1 n t d w hs hd hc M i e l (by omega) (by omega) (by rw [twos_len h (by omega), hrl]) (twos_in (nthRow_in hc) hin h)
end
theorem l_iFold0 (L1 : Int → Option (Res Int)) (L2 : List Int → Option (Res (List Int × Option Nat × List Int))) (L3 : List Int → Option (List Int)) (Ld : Nat → Int → Int → Option (Res Int)) (v : Int) (n : Nat) (hn : n ≤ 1000) (t : List Int) : ∀ (m j e : Nat), j + m = n →
    impl_fold_l0 L1 L2 L3 Ld (m + 1 + e) v n j t (List.replicate j v) = some (.ok (t, List.replicate n v))
  | 0, j, e, h => by
    rw [show 0 + 1 + e = e + 1 by omega]
    simp only [impl_fold_l0]
    rw [if_neg (by omega), show j = n by omega]
  | m + 1, j, e, h => by
    rw [show m + 1 + 1 + e = (m + 1 + e) + 1 by omega]
    simp only [impl_fold_l0]
    have e1 : List.replicate j v ++ [v] = List.replicate (j + 1) v := by rw [List.replicate_succ']
    rw [if_pos (by omega), e1, if_pos (room_small (by unfold small; simp; omega)), succ_w (n := n) (by omega) (by rw [big_eq]; omega)]
    exact l_iFold0 L1 L2 L3 Ld v n hn t m (j + 1) e (by omega)
def pre_impl_fold (op : Int) (f : Nat) (s d : List Int) (k : Int) : Prop := ((1 ≤ op ∧ op ≤ 10) ∧ f = opNo op) ∧ arrOk s d = true ∧ ∃ n t, s = n :: t ∧ 0 ≤ k ∧ k ≤ n
def s_impl_fold (op : Int) (f : Nat) (s d : List Int) (k : Int) : Res (List Int × List Int) := pans (foldN op s d k)
theorem made_cap {t : List Int} (h : fits t = true) : s_impl_made t = .ok (t, some (prodI t).toNat, []) := by
  unfold s_impl_made
  rw [if_pos h, (cellsOf_fits t).2 h, fits_prod h]
theorem made_no {t : List Int} (h : ¬ fits t = true) : s_impl_made t = .pan (thrown 6) := by
  unfold s_impl_made
  rw [if_neg h]
theorem p_impl_fold (L1 : Int → Option (Res Int)) (h1 : ∀ op, pre_impl_nothingOf op → L1 op = some (s_impl_nothingOf op)) (L2 : List Int → Option (Res (List Int × Option Nat × List Int))) (h2 : ∀ l, pre_impl_made l → L2 l = some (s_impl_made l))
    (L3 : List Int → Option (List Int)) (h3 : ∀ l, pre_slices_Clone___int_int_ l → L3 l = some (s_slices_Clone___int_int_ l)) (Ld : Nat → Int → Int → Option (Res Int)) (hd : ∀ f x y, dyn_pre f x y → Ld f x y = some (dyn_s f x y))
    (op : Int) (f : Nat) (s d : List Int) (k : Int) (h : pre_impl_fold op f s d k) : ∃ N, impl_fold_f L1 L2 L3 Ld N op f s d k = some (s_impl_fold op f s d k) := by
  obtain ⟨⟨ho, rfl⟩, ha, n, t, rfl, k0, k1⟩ := h
  have hD : ∀ x y, cellIn x → cellIn y → Ld (opNo op) x y = some (resOf (twoOf op x y)) := fun x y hx hy => by rw [hd _ _ _ (dyn_op ho hx hy).1, (dyn_op ho hx hy).2]
  obtain ⟨a1, a2, a3, a4, a5⟩ := arrOk_small ha
  have hf := (arrOk_cells ha).2.1
  have hc := (arrOk_cells ha).1
  obtain ⟨n0, n1, p0, p1, t2⟩ := fits_cons hf
  have ht2 : small t := by unfold small; omega
  unfold impl_fold_f s_impl_fold
  by_cases c : k = 0
  · subst c
    by_cases cf : fits t = true
    · have hr := ((fits_iff t).1 cf).2.2
      refine ⟨(prodI t).toNat + 1, ?_⟩
      rw [if_pos rfl, h1 _ trivial]
      simp only [Option.bind_some, s_impl_nothingOf, foldN, if_true]
      cases noneOf op with
      | none => rfl
      | some v =>
        simp only [Res.on]
        rw [cut_tail]
        simp only [Option.bind_some]
        rw [h2 _ ht2, made_cap cf]
        simp only [Option.bind_some]
        rw [if_pos cf]
        exact l_iFold0 L1 L2 L3 Ld v (prodI t).toNat (by omega) t (prodI t).toNat 0 0 (by omega)
    · refine ⟨0, ?_⟩
      rw [if_pos rfl, h1 _ trivial]
      simp only [Option.bind_some, s_impl_nothingOf, foldN, if_true]
      cases noneOf op with
      | none => rfl
      | some v =>
        simp only [Res.on]
        rw [cut_tail]
        simp only [Option.bind_some]
        rw [h2 _ ht2, made_no cf]
        simp only [Option.bind_some]
        rw [if_neg cf]; rfl
  · obtain ⟨w, hw⟩ := Int.eq_ofNat_of_zero_le p0
    obtain ⟨j, hj⟩ := Int.eq_ofNat_of_zero_le (show 0 ≤ k - 1 by omega)
    have hft := fits_tail hf (by omega)
    have hlen := arr_len ha
    have hwt : (prodI t).toNat = w := by rw [hw]; rfl
    have hjw : (j + 1) * w ≤ d.length := by
      have e : ((j + 1 : Nat) : Int) * w ≤ n * w := Int.mul_le_mul_of_nonneg_right (by omega) (by omega)
      rw [prodI, hw] at hlen
      have : (((j + 1) * w : Nat) : Int) ≤ d.length := by rw [hlen]; simpa using e
      omega
    have hrl : (nthRow d w j).length = w := nthRow_len hjw
    have hjw' := hjw
    rw [Nat.add_mul, Nat.one_mul] at hjw'
    refine ⟨w + 1 + (j + 1), ?_⟩
    rw [if_neg c, foldN_pos c, show idx (n :: t) 0 = some n from rfl]
    simp only [Option.bind_some]
    have e1 : w64 (Int.tdiv (d.length : Int) n) = (w : Int) := by
      rw [hlen, prodI, Int.mul_tdiv_cancel_left _ (by omega), hw, w64_in (by omega)]
    have e2 : (j : Int) * w = ((j * w : Nat) : Int) := by simp
    have e3 : k * w = (j : Int) * w + w := by rw [show k = (j : Int) + 1 by omega, Int.add_mul, Int.one_mul]
    rw [if_neg (by omega), e1, show w64 (k - 1) = (j : Int) by rw [w64_in (by omega)]; omega, e3, w64_in (n := (j : Int) * w) (by omega), w64_in (n := (j : Int) * w + w) (by omega), cut_row a2 hjw]
    simp only [Option.bind_some]
    rw [h3 _ (by show small _; unfold small; rw [hrl]; omega)]
    simp only [Option.bind_some, s_slices_Clone___int_int_]
    rw [show w64 (k - 2) = (j : Int) - 1 by rw [w64_in (by omega)]; omega, hwt, show (k - 1).toNat = j by omega]
    have key := l_iFold1 L1 L2 L3 h3 Ld (opNo op) op hD n t d w ht2 a2 hc (j + 1) j (w + 1) (nthRow d w j) (by omega) (by omega) hrl (nthRow_in hc)
    rw [show j + 1 + (w + 1) = w + 1 + (j + 1) by omega] at key
    exact key
def pre_impl_cloned (s d : List Int) : Prop := small s ∧ small d
def s_impl_cloned (s d : List Int) : List Int × List Int := (s, d)
theorem p_impl_cloned (L : List Int → Option (List Int)) (hL : ∀ l, pre_slices_Clone___int_int_ l → L l = some (s_slices_Clone___int_int_ l)) (s d : List Int) (h : pre_impl_cloned s d) : ∃ N, impl_cloned_f L N s d = some (s_impl_cloned s d) := by
  refine ⟨0, ?_⟩
  unfold impl_cloned_f
  rw [hL _ h.1, hL _ h.2]; rfl
theorem redu_len {op : Int} {d : List Int} {w : Nat} : ∀ {i : Nat} {acc l : List Int}, i * w ≤ d.length → acc.length = w → redu op d w i acc = .ok l → l.length = w
  | 0, acc, l, hi, ha, h => by simp only [redu, Except.ok.injEq] at h; subst h; exact ha
  | i + 1, acc, l, hi, ha, h => by
    simp only [redu] at h
    cases h1 : twos op (nthRow d w i) acc with
    | error c => rw [h1] at h; cases h
    | ok v =>
      rw [h1] at h
      have hi' := hi
      rw [Nat.add_mul, Nat.one_mul] at hi'
      exact redu_len (by omega) (by rw [twos_len h1 (by rw [nthRow_len hi, ha]), nthRow_len hi]) h
/-- the fold's end is no larger than may be -/
theorem foldN_len {op k : Int} {s d : List Int} (h : arrOk s d = true) (hk : s = [] ∨ ∃ n t, s = n :: t ∧ 0 ≤ k ∧ k ≤ n) {p : List Int × List Int} (hp : foldN op s d k = .ok p) : p.1 = s.tail ∧ (s = [] ∨ p.2.length = (prodI s.tail).toNat) ∧ p.2.length ≤ 1000 := by
  obtain ⟨a1, a2, a3, a4, a5⟩ := arrOk_small h
  cases s with
  | nil =>
    simp only [foldN, Except.ok.injEq] at hp
    subst hp
    exact ⟨rfl, .inl rfl, a4⟩
  | cons n t =>
    have hf := (arrOk_cells h).2.1
    obtain ⟨n0, n1, p0, p1, t2⟩ := fits_cons hf
    obtain ⟨n', t', e, k0, k1⟩ := hk.resolve_left (by simp)
    obtain ⟨rfl, rfl⟩ : n = n' ∧ t = t' := by simpa using e
    by_cases c : k = 0
    · simp only [foldN] at hp
      rw [if_pos c] at hp
      cases hn : noneOf op with
      | none => rw [hn] at hp; cases hp
      | some v =>
        rw [hn] at hp
        simp only at hp
        split at hp
        · rename_i cf
          simp only [Except.ok.injEq] at hp
          subst hp
          have := ((fits_iff t).1 cf).2.2
          simp only [List.tail_cons, List.length_replicate]
          exact ⟨trivial, .inr trivial, by omega⟩
        · cases hp
    · rw [foldN_pos c] at hp
      obtain ⟨w, hw⟩ := Int.eq_ofNat_of_zero_le p0
      obtain ⟨j, hj⟩ := Int.eq_ofNat_of_zero_le (show 0 ≤ k - 1 by omega)
      have hlen := arr_len h
      have hwt : (prodI t).toNat = w := by rw [hw]; rfl
      have hjw : (j + 1) * w ≤ d.length := by
        have e : ((j + 1 : Nat) : Int) * w ≤ n * w := Int.mul_le_mul_of_nonneg_right (by omega) (by omega)
        rw [prodI, hw] at hlen
        have : (((j + 1) * w : Nat) : Int) ≤ d.length := by rw [hlen]; simpa using e
        omega
      have hrl : (nthRow d w j).length = w := nthRow_len hjw
      have hjw' := hjw
      rw [Nat.add_mul, Nat.one_mul] at hjw'
      rw [hwt, show (k - 1).toNat = j by omega] at hp
      cases hr : redu op d w j (nthRow d w j) with
      | error c => rw [hr] at hp; cases hp
      | ok l =>
        rw [hr] at hp
        simp only [behindT, Except.ok.injEq, List.nil_append] at hp
        subst hp
        have := redu_len (by omega) hrl hr
        simp only [List.tail_cons]
        exact ⟨trivial, .inr (by omega), by omega⟩
end Go.Vm
/- Two rows, one behind the other. -/
namespace Go.Vm
def pre_slices_Grow___int_int_ (n : Int) : Prop := 0 ≤ n ∧ n ≤ 1048576
def s_slices_Grow___int_int_ (n : Int) : Res (List Int) := .ok []
theorem p_slices_Grow___int_int_ (n : Int) (h : pre_slices_Grow___int_int_ n) : ∃ N, slices_Grow___int_int__f N n = some (s_slices_Grow___int_int_ n) := by
  obtain ⟨h1, h2⟩ := h
  refine ⟨0, ?_⟩
  unfold slices_Grow___int_int__f s_slices_Grow___int_int_
  rw [if_neg (by omega), show w64 0 = 0 from w64_in (by omega), w64_in (by omega), if_pos (show zOk 8 (n - 0) by unfold zOk roomB; omega)]
  split <;> rfl
def pre_slices_Concat___int_int_ (l : List (List Int)) : Prop := ∃ a b, l = [a, b] ∧ a.length ≤ 3 ∧ b.length ≤ 3
def s_slices_Concat___int_int_ (l : List (List Int)) : Res (List Int) := .ok l.flatten
theorem p_slices_Concat___int_int_ (L : Int → Option (Res (List Int))) (hL : ∀ n, pre_slices_Grow___int_int_ n → L n = some (s_slices_Grow___int_int_ n)) (l : List (List Int)) (h : pre_slices_Concat___int_int_ l) :
    ∃ N, slices_Concat___int_int__f L N l = some (s_slices_Concat___int_int_ l) := by
  obtain ⟨a, b, rfl, ha, hb⟩ := h
  refine ⟨3, ?_⟩
  unfold slices_Concat___int_int__f s_slices_Concat___int_int_
  have w1 : w64 (0 + 1) = 1 := w64_in (by omega)
  have w2 : w64 (1 + 1) = 2 := w64_in (by omega)
  have l1 : w64 (0 + (a.length : Int)) = a.length := by rw [w64_in (by omega)]; omega
  have l2 : w64 ((a.length : Int) + b.length) = a.length + b.length := w64_in (by omega)
  have ln : (([a, b] : List (List Int)).length : Int) = 2 := rfl
  have i0 : idx [a, b] 0 = some a := rfl
  have i1 : idx [a, b] 1 = some b := rfl
  rw [ln]
  simp only [slices_Concat___int_int__l0]
  rw [if_pos (by omega), i0]
  simp only [Option.bind_some]
  rw [l1, w1, if_neg (by omega), if_pos (by omega), i1]
  simp only [Option.bind_some]
  rw [l2, w2, if_neg (by omega), if_neg (by omega), hL _ ⟨by omega, by omega⟩]
  simp only [Option.bind_some, s_slices_Grow___int_int_, Res.on]
  rw [ln]
  simp only [slices_Concat___int_int__l1]
  rw [if_pos (by omega), i0]
  simp only [Option.bind_some]
  rw [if_pos (room_small (by unfold small; simp; omega)), w1, if_pos (by omega), i1]
  simp only [Option.bind_some]
  rw [if_pos (room_small (by unfold small; simp; omega)), w2, if_neg (by omega)]
  simp
end Go.Vm
