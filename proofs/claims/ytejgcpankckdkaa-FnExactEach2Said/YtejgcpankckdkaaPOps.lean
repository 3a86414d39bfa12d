/- Two-place operators on cells: what the reference says of them, and the program's own. -/
import Derived.Test.YtejgcpankckdkaaPBas
import Derived.Test.YtejgcpankckdkaaFOps
import Derived.Test.YtejgcpankckdkaaVmLayer
set_option linter.unusedVariables false
set_option linter.unusedSimpArgs false
namespace Go.Vm
theorem under_neg {β : Type} {p : Prop} {x : β} (h : ¬ p) : under p x = none := if_neg h
/-- a cell that may be -/
def cellIn (x : Int) : Prop := -3000000000 ≤ x ∧ x ≤ 3000000000
theorem cellIn_of {l : List Int} (h : l.all cellOk = true) : ∀ x ∈ l, cellIn x := by
  intro x hx
  have := List.all_eq_true.1 h x hx
  simpa [cellOk, cellIn] using this
theorem arrOk_cells {s d : List Int} (h : arrOk s d = true) : (∀ x ∈ d, cellIn x) ∧ fits s = true ∧ (d.length : Int) = s.foldl stepP 1 := by
  unfold arrOk at h
  simp only [Bool.and_eq_true, decide_eq_true_eq] at h
  exact ⟨cellIn_of h.2, h.1.1, h.1.2⟩

def pre_spec_l2Bool (b : Bool) : Prop := True
def s_spec_l2Bool (b : Bool) : Int := if b = true then 1 else 0
theorem p_spec_l2Bool (b : Bool) (h : pre_spec_l2Bool b) : ∃ N, spec_l2Bool_f N b = some (s_spec_l2Bool b) := by
  refine ⟨0, ?_⟩
  unfold spec_l2Bool_f s_spec_l2Bool
  cases b <;> rfl
def pre_impl_truth (b : Bool) : Prop := True
def s_impl_truth (b : Bool) : Int := s_spec_l2Bool b
theorem p_impl_truth (b : Bool) (h : pre_impl_truth b) : ∃ N, impl_truth_f N b = some (s_impl_truth b) := by
  refine ⟨0, ?_⟩
  unfold impl_truth_f s_impl_truth s_spec_l2Bool
  cases b <;> rfl

def pre_spec_l2OpOk (op : Int) : Prop := True
def s_spec_l2OpOk (op : Int) : Bool := decide (1 ≤ op ∧ op ≤ 10)
theorem p_spec_l2OpOk (op : Int) (h : pre_spec_l2OpOk op) : ∃ N, spec_l2OpOk_f N op = some (s_spec_l2OpOk op) := by
  refine ⟨0, ?_⟩
  unfold spec_l2OpOk_f s_spec_l2OpOk
  by_cases c : 1 ≤ op
  · rw [if_pos c]; simp [c]
  · rw [if_neg c]; simp [c]

/-- a cell within bounds, and the code -/
def inR (x : Int) : Int × Int := if x < -3000000000 then (0, 5) else if 3000000000 < x then (0, 5) else (x, 0)
def pre_spec_l2In (x : Int) : Prop := True
def s_spec_l2In (x : Int) : Int × Int := inR x
theorem p_spec_l2In (x : Int) (h : pre_spec_l2In x) : ∃ N, spec_l2In_f N x = some (s_spec_l2In x) := by
  refine ⟨0, ?_⟩
  unfold spec_l2In_f s_spec_l2In inR
  split
  · rfl
  · split <;> rfl
/-- a value, or the code thrown -/
def resOf (r : Int × Int) : Res Int := if r.2 = 0 then .ok r.1 else .pan (thrown r.2)
def pre_impl_inRange (x : Int) : Prop := True
def s_impl_inRange (x : Int) : Res Int := resOf (inR x)
theorem p_impl_inRange (x : Int) (h : pre_impl_inRange x) : ∃ N, impl_inRange_f N x = some (s_impl_inRange x) := by
  refine ⟨0, ?_⟩
  unfold impl_inRange_f s_impl_inRange inR resOf
  split
  · rfl
  · split <;> rfl

-- the quotient that is rounded down
theorem tdiv_abs (x y : Int) (hx : cellIn x) : -3000000000 ≤ Int.tdiv x y ∧ Int.tdiv x y ≤ 3000000000 := by
  obtain ⟨h1, h2⟩ := hx
  have : (Int.tdiv x y).natAbs ≤ x.natAbs := by
    rw [Int.natAbs_tdiv]; exact Nat.div_le_self _ _
  omega
theorem tmod_abs (x y : Int) (hx : cellIn x) : -3000000000 ≤ Int.tmod x y ∧ Int.tmod x y ≤ 3000000000 := by
  obtain ⟨h1, h2⟩ := hx
  have : (Int.tmod x y).natAbs ≤ x.natAbs := by
    rw [Int.natAbs_tmod]; exact Nat.mod_le _ _
  omega
/-- the quotient, rounded down -/
def flo (x y : Int) : Int := if Int.tmod x y = 0 then Int.tdiv x y else if (decide (Int.tmod x y < 0) == decide (y < 0)) = false then Int.tdiv x y - 1 else Int.tdiv x y
/-- the rest -/
def res (x y : Int) : Int := if Int.tmod x y = 0 then 0 else if (decide (Int.tmod x y < 0) == decide (y < 0)) = false then Int.tmod x y + y else Int.tmod x y
theorem flo_res (x y : Int) : y * flo x y = x - res x y := by
  have e := Int.mul_tdiv_add_tmod x y
  unfold flo res
  split
  · omega
  · split
    · rw [Int.mul_sub, Int.mul_one]; omega
    · omega
theorem res_abs (x y : Int) (hx : cellIn x) (hy : cellIn y) : -3000000000 ≤ res x y ∧ res x y ≤ 3000000000 := by
  have h := tmod_abs x y hx
  obtain ⟨y1, y2⟩ := hy
  unfold res
  split
  · omega
  · rename_i c
    split
    · rename_i d
      by_cases p : Int.tmod x y < 0 <;> by_cases q : y < 0
      · simp [p, q] at d
      · omega
      · omega
      · simp [p, q] at d
    · omega
theorem flo_abs (x y : Int) (hx : cellIn x) : -3000000001 ≤ flo x y ∧ flo x y ≤ 3000000000 := by
  have h := tdiv_abs x y hx
  unfold flo
  split
  · omega
  · split <;> omega
theorem tmod_neg (x y : Int) (h : ¬ Int.tmod x y = 0) : Int.tmod x y < 0 ↔ x < 0 := by
  have s := Int.sign_tmod x y
  have hd : ¬ y ∣ x := fun q => h (Int.dvd_iff_tmod_eq_zero.1 q)
  rw [if_neg hd] at s
  rw [← Int.sign_eq_neg_one_iff_neg, ← Int.sign_eq_neg_one_iff_neg, s]
def pre_spec_l2Floor (x y : Int) : Prop := cellIn x ∧ cellIn y ∧ ¬ y = 0
def s_spec_l2Floor (x y : Int) : Int := flo x y
theorem p_spec_l2Floor (x y : Int) (h : pre_spec_l2Floor x y) : ∃ N, spec_l2Floor_f N x y = some (s_spec_l2Floor x y) := by
  obtain ⟨hx, hy, h0⟩ := h
  refine ⟨0, ?_⟩
  have ht := tdiv_abs x y hx
  have hm := tmod_abs x y hx
  have e := Int.mul_tdiv_add_tmod x y
  have hx' := hx
  obtain ⟨x1, x2⟩ := hx'
  unfold spec_l2Floor_f s_spec_l2Floor flo
  rw [if_neg h0, w64_in (n := Int.tdiv x y) (by omega), Int.mul_comm, w64_in (n := y * Int.tdiv x y) (by omega)]
  by_cases c : Int.tmod x y = 0
  · rw [if_pos c, if_pos (by omega)]
  · rw [if_neg c, if_neg (by omega), w64_in (n := Int.tdiv x y - 1) (by omega)]
    have := tmod_neg x y c
    simp only [this]
    split <;> rfl
def pre_impl_floorDiv (x y : Int) : Prop := cellIn x ∧ cellIn y
def s_impl_floorDiv (x y : Int) : Res Int := if y = 0 then .pan (thrown 1) else .ok (flo x y)
theorem p_impl_floorDiv (x y : Int) (h : pre_impl_floorDiv x y) : ∃ N, impl_floorDiv_f N x y = some (s_impl_floorDiv x y) := by
  obtain ⟨hx, hy⟩ := h
  refine ⟨0, ?_⟩
  have ht := tdiv_abs x y hx
  unfold impl_floorDiv_f s_impl_floorDiv flo
  by_cases h0 : y = 0
  · rw [if_pos h0, if_pos h0]; rfl
  · rw [if_neg h0, if_neg h0, if_neg h0, if_neg h0, w64_in (n := Int.tdiv x y) (by omega), w64_in (n := Int.tdiv x y - 1) (by omega)]
    split
    · rfl
    · split <;> rfl

/-- what is done to two cells, and its code -/
def twoOf (op x y : Int) : Int × Int :=
  if op = 1 then inR (x + y)
  else if op = 2 then inR (x - y)
  else if op = 3 then inR (x * y)
  else if op = 4 then (if y = 0 then (0, 1) else inR (flo x y))
  else if op = 5 then (if y = 0 then x else res x y, 0)
  else if op = 8 then (s_spec_l2Bool (decide (x < y)), 0)
  else if op = 9 then (s_spec_l2Bool (decide (x = y)), 0)
  else if op = 10 then (s_spec_l2Bool (decide (y < x)), 0)
  else if (decide (op = 6) == decide (x < y)) = true then (x, 0) else (y, 0)
theorem mul_abs {x y : Int} (hx : cellIn x) (hy : cellIn y) : -9000000000000000000 ≤ x * y ∧ x * y ≤ 9000000000000000000 := by
  obtain ⟨x1, x2⟩ := hx
  obtain ⟨y1, y2⟩ := hy
  have h : (x * y).natAbs ≤ 3000000000 * 3000000000 := by
    rw [Int.natAbs_mul]; exact Nat.mul_le_mul (by omega) (by omega)
  omega
theorem inR_in {x : Int} (h : cellIn x) : inR x = (x, 0) := by
  obtain ⟨h1, h2⟩ := h
  unfold inR; rw [if_neg (by omega), if_neg (by omega)]
def pre_spec_l2Two (op x y : Int) : Prop := cellIn x ∧ cellIn y
def s_spec_l2Two (op x y : Int) : Int × Int := twoOf op x y
theorem p_spec_l2Two (L1 : Int → Option (Int × Int)) (h1 : ∀ x, pre_spec_l2In x → L1 x = some (s_spec_l2In x)) (L2 : Int → Int → Option Int) (h2 : ∀ x y, pre_spec_l2Floor x y → L2 x y = some (s_spec_l2Floor x y))
    (L3 : Bool → Option Int) (h3 : ∀ b, pre_spec_l2Bool b → L3 b = some (s_spec_l2Bool b)) (op x y : Int) (h : pre_spec_l2Two op x y) : ∃ N, spec_l2Two_f L1 L2 L3 N op x y = some (s_spec_l2Two op x y) := by
  obtain ⟨hx, hy⟩ := h
  have hm := mul_abs hx hy
  have hx' := hx
  have hy' := hy
  obtain ⟨x1, x2⟩ := hx'
  obtain ⟨y1, y2⟩ := hy'
  refine ⟨0, ?_⟩
  unfold spec_l2Two_f s_spec_l2Two twoOf
  rw [w64_in (n := x + y) (by omega), w64_in (n := x - y) (by omega), w64_in (n := x * y) (by omega)]
  simp only [h1 _ trivial, h3 _ trivial, Option.bind_some, s_spec_l2In]
  by_cases c1 : op = 1
  · rw [if_pos c1, if_pos c1]
  rw [if_neg c1, if_neg c1]
  by_cases c2 : op = 2
  · rw [if_pos c2, if_pos c2]
  rw [if_neg c2, if_neg c2]
  by_cases c3 : op = 3
  · rw [if_pos c3, if_pos c3]
  rw [if_neg c3, if_neg c3]
  by_cases h0 : y = 0
  · simp only [h0, if_true]
    split
    · rfl
    · split
      · rfl
      · split
        · rfl
        · split
          · rfl
          · split
            · rfl
            · split <;> rfl
  · have hq := flo_res x y
    have hr := res_abs x y hx hy
    simp only [h0, if_false]
    rw [h2 _ _ ⟨hx, hy, h0⟩]
    simp only [Option.bind_some, s_spec_l2Floor, hq]
    rw [w64_in (n := x - res x y) (by omega), show x - (x - res x y) = res x y by omega, w64_in (n := res x y) (by omega), inR_in hr]
    split
    · rfl
    · split
      · rfl
      · split
        · rfl
        · split
          · rfl
          · split
            · rfl
            · split <;> rfl

-- the program's own
def pre_impl_cellOps_1 (x y : Int) : Prop := cellIn x ∧ cellIn y
def s_impl_cellOps_1 (x y : Int) : Res Int := resOf (twoOf 1 x y)
theorem p_impl_cellOps_1 (L : Int → Option (Res Int)) (hL : ∀ x, pre_impl_inRange x → L x = some (s_impl_inRange x)) (x y : Int) (h : pre_impl_cellOps_1 x y) : ∃ N, impl_cellOps_1_f L N x y = some (s_impl_cellOps_1 x y) := by
  have hm := mul_abs h.1 h.2
  obtain ⟨⟨x1, x2⟩, y1, y2⟩ := h
  refine ⟨0, ?_⟩
  unfold impl_cellOps_1_f s_impl_cellOps_1
  rw [hL _ trivial, w64_in (by omega)]
  have e : twoOf 1 x y = inR (x + y) := by simp [twoOf]
  rw [e]
  simp only [Option.bind_some, s_impl_inRange]
  cases resOf (inR (x + y)) <;> rfl
def pre_impl_cellOps_2 (x y : Int) : Prop := cellIn x ∧ cellIn y
def s_impl_cellOps_2 (x y : Int) : Res Int := resOf (twoOf 2 x y)
theorem p_impl_cellOps_2 (L : Int → Option (Res Int)) (hL : ∀ x, pre_impl_inRange x → L x = some (s_impl_inRange x)) (x y : Int) (h : pre_impl_cellOps_2 x y) : ∃ N, impl_cellOps_2_f L N x y = some (s_impl_cellOps_2 x y) := by
  have hm := mul_abs h.1 h.2
  obtain ⟨⟨x1, x2⟩, y1, y2⟩ := h
  refine ⟨0, ?_⟩
  unfold impl_cellOps_2_f s_impl_cellOps_2
  rw [hL _ trivial, w64_in (by omega)]
  have e : twoOf 2 x y = inR (x - y) := by simp [twoOf]
  rw [e]
  simp only [Option.bind_some, s_impl_inRange]
  cases resOf (inR (x - y)) <;> rfl
def pre_impl_cellOps_3 (x y : Int) : Prop := cellIn x ∧ cellIn y
def s_impl_cellOps_3 (x y : Int) : Res Int := resOf (twoOf 3 x y)
theorem p_impl_cellOps_3 (L : Int → Option (Res Int)) (hL : ∀ x, pre_impl_inRange x → L x = some (s_impl_inRange x)) (x y : Int) (h : pre_impl_cellOps_3 x y) : ∃ N, impl_cellOps_3_f L N x y = some (s_impl_cellOps_3 x y) := by
  have hm := mul_abs h.1 h.2
  obtain ⟨⟨x1, x2⟩, y1, y2⟩ := h
  refine ⟨0, ?_⟩
  unfold impl_cellOps_3_f s_impl_cellOps_3
  rw [hL _ trivial, w64_in (by omega)]
  have e : twoOf 3 x y = inR (x * y) := by simp [twoOf]
  rw [e]
  simp only [Option.bind_some, s_impl_inRange]
  cases resOf (inR (x * y)) <;> rfl
def pre_impl_cellOps_4 (x y : Int) : Prop := cellIn x ∧ cellIn y
def s_impl_cellOps_4 (x y : Int) : Res Int := resOf (twoOf 4 x y)
theorem p_impl_cellOps_4 (L1 : Int → Int → Option (Res Int)) (h1 : ∀ x y, pre_impl_floorDiv x y → L1 x y = some (s_impl_floorDiv x y)) (L2 : Int → Option (Res Int)) (h2 : ∀ x, pre_impl_inRange x → L2 x = some (s_impl_inRange x)) (x y : Int) (h : pre_impl_cellOps_4 x y) : ∃ N, impl_cellOps_4_f L1 L2 N x y = some (s_impl_cellOps_4 x y) := by
  refine ⟨0, ?_⟩
  unfold impl_cellOps_4_f s_impl_cellOps_4
  rw [h1 _ _ h]
  show (some _).bind _ = some (resOf (if y = 0 then (0, 1) else inR (flo x y)))
  simp only [Option.bind_some, s_impl_floorDiv]
  by_cases h0 : y = 0
  · rw [if_pos h0, if_pos h0]; rfl
  · rw [if_neg h0, if_neg h0]
    simp only [Res.on]
    rw [h2 _ trivial]
    simp only [Option.bind_some, s_impl_inRange]
    cases resOf (inR (flo x y)) <;> rfl
def pre_impl_residue (x y : Int) : Prop := cellIn x ∧ cellIn y
def s_impl_residue (x y : Int) : Int := (twoOf 5 x y).1
theorem p_impl_residue (x y : Int) (h : pre_impl_residue x y) : ∃ N, impl_residue_f N x y = some (s_impl_residue x y) := by
  obtain ⟨hx, hy⟩ := h
  have hr := res_abs x y hx hy
  refine ⟨0, ?_⟩
  unfold impl_residue_f s_impl_residue
  show _ = some (if y = 0 then x else res x y)
  by_cases h0 : y = 0
  · rw [if_pos h0, if_pos h0]
  · rw [if_neg h0, if_neg h0, if_neg h0]
    unfold res at hr ⊢
    by_cases c : Int.tmod x y = 0
    · rw [if_pos c, if_pos c, c]
    · rw [if_neg c] at hr ⊢
      rw [if_neg c]
      by_cases d : (decide (Int.tmod x y < 0) == decide (y < 0)) = false
      · rw [if_pos d] at hr ⊢
        rw [if_pos d, w64_in (by omega)]
      · rw [if_neg d, if_neg d]
def pre_impl_cellOps_5 (x y : Int) : Prop := cellIn x ∧ cellIn y
def s_impl_cellOps_5 (x y : Int) : Int := (twoOf 6 x y).1
theorem p_impl_cellOps_5 (x y : Int) (h : pre_impl_cellOps_5 x y) : ∃ N, impl_cellOps_5_f N x y = some (s_impl_cellOps_5 x y) := by
  refine ⟨0, ?_⟩
  unfold impl_cellOps_5_f s_impl_cellOps_5
  show _ = some (if (decide ((6 : Int) = 6) == decide (x < y)) = true then (x, (0 : Int)) else (y, 0)).1
  by_cases c : x < y <;> simp [c] <;> omega
def pre_impl_cellOps_6 (x y : Int) : Prop := cellIn x ∧ cellIn y
def s_impl_cellOps_6 (x y : Int) : Int := (twoOf 7 x y).1
theorem p_impl_cellOps_6 (x y : Int) (h : pre_impl_cellOps_6 x y) : ∃ N, impl_cellOps_6_f N x y = some (s_impl_cellOps_6 x y) := by
  refine ⟨0, ?_⟩
  unfold impl_cellOps_6_f s_impl_cellOps_6
  show _ = some (if (decide ((7 : Int) = 6) == decide (x < y)) = true then (x, (0 : Int)) else (y, 0)).1
  by_cases c : x < y <;> simp [c] <;> omega
def pre_impl_cellOps_7 (x y : Int) : Prop := cellIn x ∧ cellIn y
def s_impl_cellOps_7 (x y : Int) : Int := (twoOf 8 x y).1
theorem p_impl_cellOps_7 (L : Bool → Option Int) (hL : ∀ b, pre_impl_truth b → L b = some (s_impl_truth b)) (x y : Int) (h : pre_impl_cellOps_7 x y) : ∃ N, impl_cellOps_7_f L N x y = some (s_impl_cellOps_7 x y) := by
  refine ⟨0, ?_⟩
  unfold impl_cellOps_7_f s_impl_cellOps_7
  rw [hL _ trivial]; rfl
def pre_impl_cellOps_8 (x y : Int) : Prop := cellIn x ∧ cellIn y
def s_impl_cellOps_8 (x y : Int) : Int := (twoOf 9 x y).1
theorem p_impl_cellOps_8 (L : Bool → Option Int) (hL : ∀ b, pre_impl_truth b → L b = some (s_impl_truth b)) (x y : Int) (h : pre_impl_cellOps_8 x y) : ∃ N, impl_cellOps_8_f L N x y = some (s_impl_cellOps_8 x y) := by
  refine ⟨0, ?_⟩
  unfold impl_cellOps_8_f s_impl_cellOps_8
  rw [hL _ trivial]; rfl
def pre_impl_cellOps_9 (x y : Int) : Prop := cellIn x ∧ cellIn y
def s_impl_cellOps_9 (x y : Int) : Int := (twoOf 10 x y).1
theorem p_impl_cellOps_9 (L : Bool → Option Int) (hL : ∀ b, pre_impl_truth b → L b = some (s_impl_truth b)) (x y : Int) (h : pre_impl_cellOps_9 x y) : ∃ N, impl_cellOps_9_f L N x y = some (s_impl_cellOps_9 x y) := by
  refine ⟨0, ?_⟩
  unfold impl_cellOps_9_f s_impl_cellOps_9
  rw [hL _ trivial]; rfl
def opNo (op : Int) : Nat := if op = 1 then 150 else if op = 2 then 152 else if op = 3 then 153 else if op = 4 then 154 else if op = 5 then 156 else if op = 6 then 157 else if op = 7 then 158 else if op = 8 then 159 else if op = 9 then 160 else if op = 10 then 161 else 0
def dyn_pre (f : Nat) (x y : Int) : Prop := (f = 150 ∨ f = 152 ∨ f = 153 ∨ f = 154 ∨ f = 156 ∨ f = 157 ∨ f = 158 ∨ f = 159 ∨ f = 160 ∨ f = 161) ∧ cellIn x ∧ cellIn y
def dyn_s (f : Nat) (x y : Int) : Res Int := if f = 150 then s_impl_cellOps_1 x y else if f = 152 then s_impl_cellOps_2 x y else if f = 153 then s_impl_cellOps_3 x y else if f = 154 then s_impl_cellOps_4 x y else if f = 156 then .ok (s_impl_residue x y) else if f = 157 then .ok (s_impl_cellOps_5 x y) else if f = 158 then .ok (s_impl_cellOps_6 x y) else if f = 159 then .ok (s_impl_cellOps_7 x y) else if f = 160 then .ok (s_impl_cellOps_8 x y) else if f = 161 then .ok (s_impl_cellOps_9 x y) else .pan (thrown 0)
theorem dyn_op {op : Int} (ho : 1 ≤ op ∧ op ≤ 10) {x y : Int} (hx : cellIn x) (hy : cellIn y) : dyn_pre (opNo op) x y ∧ dyn_s (opNo op) x y = resOf (twoOf op x y) := by
  have ho' : op = 1 ∨ op = 2 ∨ op = 3 ∨ op = 4 ∨ op = 5 ∨ op = 6 ∨ op = 7 ∨ op = 8 ∨ op = 9 ∨ op = 10 := by omega
  rcases ho' with rfl | rfl | rfl | rfl | rfl | rfl | rfl | rfl | rfl | rfl
  · exact ⟨⟨by simp [opNo], hx, hy⟩, rfl⟩
  · exact ⟨⟨by simp [opNo], hx, hy⟩, rfl⟩
  · exact ⟨⟨by simp [opNo], hx, hy⟩, rfl⟩
  · exact ⟨⟨by simp [opNo], hx, hy⟩, rfl⟩
  · exact ⟨⟨by simp [opNo], hx, hy⟩, rfl⟩
  · refine ⟨⟨by simp [opNo], hx, hy⟩, ?_⟩
    show Res.ok (twoOf 6 x y).1 = _
    have : (twoOf 6 x y).2 = 0 := by simp only [twoOf, show ¬ (6 : Int) = 1 by omega, show ¬ (6 : Int) = 2 by omega, show ¬ (6 : Int) = 3 by omega, show ¬ (6 : Int) = 4 by omega, show ¬ (6 : Int) = 5 by omega, show ¬ (6 : Int) = 8 by omega, show ¬ (6 : Int) = 9 by omega, show ¬ (6 : Int) = 10 by omega, if_false]; split <;> rfl
    unfold resOf; rw [if_pos this]
  · refine ⟨⟨by simp [opNo], hx, hy⟩, ?_⟩
    show Res.ok (twoOf 7 x y).1 = _
    have : (twoOf 7 x y).2 = 0 := by simp only [twoOf, show ¬ (7 : Int) = 1 by omega, show ¬ (7 : Int) = 2 by omega, show ¬ (7 : Int) = 3 by omega, show ¬ (7 : Int) = 4 by omega, show ¬ (7 : Int) = 5 by omega, show ¬ (7 : Int) = 8 by omega, show ¬ (7 : Int) = 9 by omega, show ¬ (7 : Int) = 10 by omega, if_false]; split <;> rfl
    unfold resOf; rw [if_pos this]
  · exact ⟨⟨by simp [opNo], hx, hy⟩, rfl⟩
  · exact ⟨⟨by simp [opNo], hx, hy⟩, rfl⟩
  · exact ⟨⟨by simp [opNo], hx, hy⟩, rfl⟩
def pre_impl_cellOps : Prop := True
def s_impl_cellOps : Unit := ()
theorem p_impl_cellOps (L1 : Int → Int → Option (Res Int)) (h1 : ∀ x y, pre_impl_cellOps_1 x y → L1 x y = some (s_impl_cellOps_1 x y)) (L2 : Int → Int → Option (Res Int)) (h2 : ∀ x y, pre_impl_cellOps_2 x y → L2 x y = some (s_impl_cellOps_2 x y)) (L3 : Int → Int → Option (Res Int)) (h3 : ∀ x y, pre_impl_cellOps_3 x y → L3 x y = some (s_impl_cellOps_3 x y)) (L4 : Int → Int → Option (Res Int)) (h4 : ∀ x y, pre_impl_cellOps_4 x y → L4 x y = some (s_impl_cellOps_4 x y)) (L5 : Int → Int → Option Int) (h5 : ∀ x y, pre_impl_residue x y → L5 x y = some (s_impl_residue x y)) (L6 : Int → Int → Option Int) (h6 : ∀ x y, pre_impl_cellOps_5 x y → L6 x y = some (s_impl_cellOps_5 x y)) (L7 : Int → Int → Option Int) (h7 : ∀ x y, pre_impl_cellOps_6 x y → L7 x y = some (s_impl_cellOps_6 x y)) (L8 : Int → Int → Option Int) (h8 : ∀ x y, pre_impl_cellOps_7 x y → L8 x y = some (s_impl_cellOps_7 x y)) (L9 : Int → Int → Option Int) (h9 : ∀ x y, pre_impl_cellOps_8 x y → L9 x y = some (s_impl_cellOps_8 x y)) (L10 : Int → Int → Option Int) (h10 : ∀ x y, pre_impl_cellOps_9 x y → L10 x y = some (s_impl_cellOps_9 x y)) (h : pre_impl_cellOps) : ∃ N, impl_cellOps_f L1 L2 L3 L4 L5 L6 L7 L8 L9 L10 N = some s_impl_cellOps := ⟨0, rfl⟩
def pre_impl_opOf (op : Int) : Prop := True
def s_impl_opOf (op : Int) : Alt Unit Nat := if 1 ≤ op ∧ op ≤ 10 then .b (opNo op) else .a ()
theorem p_impl_opOf (L : Option Unit) (hL : pre_impl_cellOps → L = some s_impl_cellOps) (op : Int) (h : pre_impl_opOf op) : ∃ N, impl_opOf_f L N op = some (s_impl_opOf op) := by
  refine ⟨0, ?_⟩
  unfold impl_opOf_f s_impl_opOf
  rw [hL trivial]
  simp only [Option.bind_some]
  by_cases c1 : op < 1
  · rw [if_pos c1, if_neg (by omega)]
  · by_cases c2 : 10 < op
    · rw [if_neg c1, if_pos c2, if_neg (by omega)]
    · rw [if_neg c1, if_neg c2, if_pos (show 0 ≤ op ∧ op < 11 by omega), if_pos (show 1 ≤ op ∧ op ≤ 10 by omega)]
      have ho' : op = 1 ∨ op = 2 ∨ op = 3 ∨ op = 4 ∨ op = 5 ∨ op = 6 ∨ op = 7 ∨ op = 8 ∨ op = 9 ∨ op = 10 := by omega
      rcases ho' with rfl | rfl | rfl | rfl | rfl | rfl | rfl | rfl | rfl | rfl <;> rfl
theorem opOf_spec (op : Int) : (s_spec_l2OpOk op = true ∧ s_impl_opOf op = .b (opNo op) ∧ 1 ≤ op ∧ op ≤ 10) ∨ (s_spec_l2OpOk op = false ∧ s_impl_opOf op = .a ()) := by
  unfold s_spec_l2OpOk s_impl_opOf
  by_cases c : 1 ≤ op ∧ op ≤ 10
  · left; simp [c]
  · right; rw [if_neg c]; simp only [decide_eq_false_iff_not]; exact ⟨c, trivial⟩

-- arrays that may be
theorem arrOk_small {s d : List Int} (h : arrOk s d = true) : small s ∧ small d ∧ s.length ≤ 3 ∧ d.length ≤ 1000 ∧ (d.length : Int) = s.foldl stepP 1 := by
  obtain ⟨h1, h2, h3⟩ := arrOk_cells h
  have h4 := fits_range h2
  have h5 : s.length ≤ 3 := by
    unfold fits at h2
    simp only [Bool.and_eq_true, decide_eq_true_eq] at h2
    exact h2.1.1
  unfold small
  omega
/-- an array, or the code of a failure -/
def tri : Except Int (List Int × List Int) → List Int × List Int × Int
  | .ok p => (p.1, p.2, 0)
  | .error c => ([], [], c)
def pans : Except Int (List Int × List Int) → Res (List Int × List Int)
  | .ok p => .ok p
  | .error c => .pan (thrown c)
/-- two cells, as the reference tells it -/
def two (op x y : Int) : Except Int Int := if (twoOf op x y).2 = 0 then .ok (twoOf op x y).1 else .error (twoOf op x y).2
/-- two rows, cell by cell -/
def twos (op : Int) : List Int → List Int → Except Int (List Int)
  | x :: a, y :: b => match two op x y with
    | .ok v => match twos op a b with
      | .ok l => .ok (v :: l)
      | .error c => .error c
    | .error c => .error c
  | _, _ => .ok []
theorem twos_len {op : Int} : ∀ {a b l : List Int}, twos op a b = .ok l → a.length = b.length → l.length = a.length
  | [], b, l, h, hl => by simp only [twos, Except.ok.injEq] at h; subst h; rfl
  | x :: a, [], l, h, hl => by simp at hl
  | x :: a, y :: b, l, h, hl => by
    simp only [twos] at h
    cases h1 : two op x y with
    | error c => rw [h1] at h; cases h
    | ok v =>
      rw [h1] at h
      cases h2 : twos op a b with
      | error c => rw [h2] at h; cases h
      | ok l' =>
        rw [h2] at h
        simp only [Except.ok.injEq] at h
        subst h
        simp only [List.length_cons, twos_len h2 (by simpa using hl)]
/-- cells that were made, behind others -/
def behindT (s acc : List Int) : Except Int (List Int) → Except Int (List Int × List Int)
  | .ok l => .ok (s, acc ++ l)
  | .error c => .error c
theorem behindT_cons {s acc : List Int} {op x y v : Int} {a b : List Int} (h : two op x y = .ok v) : behindT s acc (twos op (x :: a) (y :: b)) = behindT s (acc ++ [v]) (twos op a b) := by
  simp only [twos, h]
  cases twos op a b <;> simp [behindT]
theorem behindT_err {s acc : List Int} {op x y c : Int} {a b : List Int} (h : two op x y = .error c) : behindT s acc (twos op (x :: a) (y :: b)) = .error c := by
  simp only [twos, h, behindT]
theorem two_ok {op x y : Int} (h : (twoOf op x y).2 = 0) : two op x y = .ok (twoOf op x y).1 := if_pos h
theorem two_err {op x y : Int} (h : ¬ (twoOf op x y).2 = 0) : two op x y = .error (twoOf op x y).2 := if_neg h
end Go.Vm
